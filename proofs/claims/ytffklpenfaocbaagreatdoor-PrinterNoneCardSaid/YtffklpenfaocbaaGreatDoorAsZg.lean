/-
  From the evaluator's run to a row's post-condition: what was there at the start stays as it was.
-/
import Derived.Test.YtffklpenfaocbaaGreatDoorAsZf
import Derived.ChangeSame
import Derived.ReadAgain
import Derived.Carry
set_option linter.unusedVariables false
set_option linter.unusedSimpArgs false
namespace Go.AS
open Go.RowKit

theorem Goes.below {E E' : Env} {W W' : World} (h : Goes E E' W.heap.size W W') : Below W.heap.size W W' :=
  ⟨h.os, h.tape, h.output, h.size, fun k hk => h.old k hk fun hR => absurd hR.1 (by omega)⟩

/-- A law that answers true and changes nothing that was there: the row's post-condition. -/
theorem post_of_read {H : Type} {enc : TypeId × Value → H} {P : Program} {f : Func} {s : ChangeSpec} {apart fresh handsOn again : Bool} {W W' : World} {args : Array Value} {ds gs : List (DataW H)} {before : List MemPlace} {tb : TypeId}
    (K : Kids P (· < P.types.size)) (full : ∀ t e, t < P.types.size → P.underlying t = some (.slice e) → 0 < P.cellsOf e) (hpar : ∀ t ∈ f.params.toList, t < P.types.size)
    (hW : DataW.Whole enc P f.params.toList s.vars apart W args.toList ds gs before) (hvars : s.vars = []) (hb : Below W.heap.size W W') (hf : f.resultTypes = #[tb]) (htb : P.underlying tb = some .bool)
    (hs : s.fn H (ds ++ gs) = { results := [.lit (.bool true)], args := ds }) : s.post enc P f apart fresh handsOn again W args (.bool true) W' := by
  have hold : ∀ p ∈ before, p.block < W.heap.size := fun p hp => hW.lt p hp
  obtain ⟨p, q, hA, hV, hbf, hz, hn⟩ := hW
  have hq : q = [] ∧ gs = [] := by
    rw [hvars] at hV
    cases gs with
    | nil => exact ⟨hV, rfl⟩
    | cons g r => exact absurd hV (by intro h; cases h)
  obtain ⟨rfl, rfl⟩ := hq
  rw [List.append_nil] at hbf
  subst before
  have hcarry : ∀ {ts : List TypeId} {vs : List Value} {ds : List (DataW H)} {ps : List MemPlace}, DataW.TrodAll enc P W 0 (fun _ => true) true ts vs ds ps → (∀ x ∈ ps, x.block < W.heap.size) → DataW.TrodAll enc P W' 0 (fun _ => true) true ts vs ds ps := by
    intro ts
    induction ts with
    | nil =>
      intro vs ds ps h _
      cases vs with
      | nil => cases ds with
        | nil => exact h
        | cons _ _ => exact h.elim
      | cons _ _ => exact h.elim
    | cons t ts ih =>
      intro vs ds ps h hlt
      cases vs with
      | nil => exact h.elim
      | cons v vs => cases ds with
        | nil => exact h.elim
        | cons d ds =>
          obtain ⟨p1, p2, ⟨n, h1⟩, h2, rfl⟩ := h
          exact ⟨p1, p2, ⟨n, DataW.trod_carry n _ _ _ h1 fun x hx => hb.same (hlt x (List.mem_append_left _ hx))⟩, ih h2 fun x hx => hlt x (List.mem_append_right _ hx), rfl⟩
  have hA' := hcarry hA hold
  have hargs : ∀ sp : Nat → Bool, (∀ x ∈ p, sp x.block = true) → DataW.TrodAll enc P W' 0 sp true f.params.toList args.toList ds p := fun sp hsp => hA'.respare K full hpar hsp
  have hres : ∀ (b : Nat) (sp : Nat → Bool) (hd : Bool), DataW.TrodAll enc P W' b sp hd f.resultTypes.toList ((Value.bool true).resultList f.resultTypes.size) [.lit (.bool true)] [] := by
    intro b sp hd
    rw [hf]
    exact ⟨[], [], ⟨1, by simp [DataW.trod, htb, Value.cells]⟩, rfl, rfl⟩
  have hsR : (s.fn H (ds ++ [])).results = [.lit (.bool true)] := by rw [hs]
  have hsA : (s.fn H (ds ++ [])).args = ds := by rw [hs]
  have hsV : (s.fn H (ds ++ [])).vars = [] := by rw [hs]
  have hargs2 : ∀ sp : Nat → Bool, (∀ x ∈ p, sp x.block = true) → DataW.TrodAll enc P W' 0 sp true f.params.toList args.toList (s.fn H (ds ++ [])).args p := fun sp h => by rw [hsA]; exact hargs sp h
  have hres2 : ∀ (b : Nat) (sp : Nat → Bool) (hd : Bool), DataW.TrodAll enc P W' b sp hd f.resultTypes.toList ((Value.bool true).resultList f.resultTypes.size) (s.fn H (ds ++ [])).results [] := fun b sp hd => by rw [hsR]; exact hres b sp hd
  have hvs : ∀ sp, DataW.TrodVars enc P W' sp s.vars (s.fn H (ds ++ [])).vars [] := fun sp => by rw [hvars, hsV]; rfl
  refine ⟨ds, [], p, [], p, [], ⟨p, [], hA, hV, by simp, hz, hn⟩, hres2 _ _ _, hargs2 _ (fun x hx => by simpa using hold x hx), hvs _, World.keptBut_mono (fun x hx => ⟨hx, ?_⟩) (hb.frame (· ∈ p)), fun _ => ?_⟩
  · exact .inr (by simpa using hx)
  · refine ⟨?_, _, _, ([] ++ p) ++ [], ⟨[] ++ p, [], Go.ChangeShapes.trodAll_append (hargs2 _ (fun _ _ => rfl)) (hres2 _ _ _), hvs _, rfl, ?_, ?_⟩, ?_⟩
    · intro j t r ht hr
      rw [hf] at ht
      have : t = tb := by
        rcases j with _ | j
        · simpa using ht.symm
        · simp at ht
      subst this
      rw [hf] at hr
      have : r = .bool true := by
        rcases j with _ | j
        · simpa [Value.resultList] using hr.symm
        · simp at ht
      subst this
      simp [Value.okWide, htb, Cell.okWide, Cell.ok]
    · intro b off hp
      have hp' : MemPlace.cell b off ∈ p := by simpa using hp
      rw [hb.frozen (p := ⟨b, off, none⟩) (hold _ hp')]
      exact hz b off hp'
    · intro ha
      have := hn ha
      simpa using this
    · intro x hx _
      simpa using hx

/-- The start: one listed variable of one cell, and nothing else. -/
noncomputable def heap1 (el : TypeId) (x : AV) : HP := ⟨Tr.put .lf 0 (.cells ⟨0, 0, [x], el, none, true⟩), 1, .lf⟩
def env1 (g S : Nat) (ρ : Nat → Value) : Env := { μ := fun i => if i = 0 then some (g, 0, S) else none, ρ := ρ }

theorem ok_start {W : World} {g : Nat} {Cs : Array Value} {el : TypeId} {fz : Nat × Nat} (h : W.heap[g]? = some (.cells Cs el fz)) {ρ : Nat → Value} {x : AV} {V : Value} (hV : Cs[0]? = some V) (hx : VR (env1 g Cs.size ρ) x V) :
    OK (env1 g Cs.size ρ) (heap1 el x) W.heap.size W := by
  have hlt : g < W.heap.size := (Array.getElem?_eq_some_iff.1 h).1
  have hget : ∀ i, (heap1 el x).obs.get i = if i = 0 then some (.cells ⟨0, 0, [x], el, none, true⟩) else none := fun i => by
    show (Tr.put .lf 0 _).get i = _
    rw [Tr.get_put, Tr.get_lf]
  refine ⟨⟨?_, ?_⟩, ?_, ?_, Nat.le_refl _, ?_⟩
  · intro i ob hi
    rw [hget] at hi
    split at hi
    · rename_i e
      subst e
      cases hi
      refine ⟨g, 0, Cs.size, rfl, ⟨⟨Cs, fz, h, rfl, fun j y hj => ?_, fun e => (by cases e)⟩, fun n hn => (by cases hn), fun e => (by cases e), fun _ => hlt⟩⟩
      rcases j with _ | j
      · simp only [List.getElem?_cons_zero, Option.some.injEq] at hj
        subst hj
        exact ⟨V, by simpa using hV, hx⟩
      · simp at hj
    · cases hi
  · intro i j oi oj B d S d' S' hij hi hj
    rw [hget] at hi hj
    split at hi
    · split at hj
      · omega
      · cases hj
    · cases hi
  · intro i hi
    have hi' : 1 ≤ i := hi
    show (if i = 0 then some (g, 0, Cs.size) else none) = none
    rw [if_neg (by omega)]
  · intro i k hi
    rw [hget] at hi
    split at hi
    · cases hi; exact Nat.zero_lt_one
    · cases hi
  · intro i y hy
    have hy' : (if i = 0 then some (g, 0, Cs.size) else none) = some y := hy
    split at hy'
    · cases hy'; exact hlt
    · cases hy'

/-- Does it answer true? -/
def says : Option (AV × HP) → Bool
  | some (.bool b, _) => b
  | _ => false

theorem says_eq {x : Option (AV × HP)} (h : says x = true) : ∃ H', x = some (.bool true, H') := by
  unfold says at h
  split at h
  · subst h; exact ⟨_, rfl⟩
  · cases h

/-- A run of the evaluator that says true, as a contract. -/
theorem calls_says {c : Cx} (hm : c.P.follows .mixedOrders = true) (hname : ∀ (f : Nat) fn, c.P.funcs[f]? = some fn → (fn.name == "runtime.NumGoroutine") = false) (hX : ∀ f k, c.X f = some k → XOK' c.P f k)
    {n : Nat} {f : FuncId} {fn : Func} (hfn : c.P.funcs[f]? = some fn) (hbody : fn.body.isSome = true) {args : List AV} {H : HP} (h : says (evCall c n f args H) = true) {W : World} {E : Env} {Args : Array Value}
    (hok : OK E H W.heap.size W) (hG : GL c E) (ha : VRs E args Args.toList) : Calls c.P f Args W fun e W' => e = .returned (.bool true) ∧ Below W.heap.size W W' := by
  obtain ⟨H', hH⟩ := says_eq h
  have := evCall_sound (N0 := W.heap.size) hm hname (draw_sound hm _) (ext_sound hX) n f args H _ H' hH E W Args hok hG ha
  rcases this with ⟨V, w', h1, -⟩ | ⟨-, h2⟩
  · exfalso
    have hn : fn.name ≠ "runtime.NumGoroutine" := by simpa using hname f fn hfn
    have hb : fn.body ≠ none := by cases hb : fn.body <;> simp_all
    simp [callFunc, hfn, hn, hb] at h1
  · refine Calls.mono h2 fun e w' ⟨V, E', he, hk, hg, hv⟩ => ?_
    cases hv
    exact ⟨he, hg.below⟩
end Go.AS
