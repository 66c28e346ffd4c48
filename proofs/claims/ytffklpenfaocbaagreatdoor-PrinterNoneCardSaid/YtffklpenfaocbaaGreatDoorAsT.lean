/-
  Code and calls, once the regions that draw their order are dealt with.
-/
import Derived.Test.YtffklpenfaocbaaGreatDoorAsS
import Derived.LoopN
import Derived.Scope
set_option linter.unusedVariables false
set_option linter.unusedSimpArgs false
namespace Go.AS
open Go.RowKit

def exOf : Ex → Exit
  | .norm => .normal
  | .exit i => .exit i
  | .ret => .ret

/-- The regions that draw their order are met, whatever order it is. -/
def DrawSound (c : Cx) (N0 : Nat) : Prop :=
  ∀ (N : Nat) (call : CallF), CallOK c N0 call → ∀ id ops (T T' : TM) (H H' : HP) E a w Q, SR c N N0 T H E a w → evRegion c N call ops true T H = some (T', H') →
    (∀ E' a' w', SR c N N0 T' H' E' a' w' → Goes E E' N0 w w' → Q Exit.normal a' w') → (Code.region id ops true).wp c.P Q a w

section
variable {c : Cx} {N0 : Nat}

theorem isNorm_eq {x : Ex} (h : isNorm x = true) : x = .norm := by cases x <;> first | rfl | cases h

theorem loop_sound {N : Nat} {P : Program} {q : Code} {f : TM → HP → Option St}
    (ih : ∀ {T : TM} {H : HP} {s : St} {E : Env} {a : Act} {w : World} {Q : Exit → Act → World → Prop}, f T H = some s → SR c N N0 T H E a w → (∀ E' a' w', SR c N N0 s.T s.H E' a' w' → Goes E E' N0 w w' → Q (exOf s.x) a' w') → q.wp P Q a w) :
    ∀ (n : Nat) {T : TM} {H : HP} {s : St} {E : Env} {a : Act} {w : World} {Q : Exit → Act → World → Prop}, loopN n f T H = some s → SR c N N0 T H E a w → (∀ E' a' w', SR c N N0 s.T s.H E' a' w' → Goes E E' N0 w w' → Q (exOf s.x) a' w') →
      Code.rounds P q Q n a w
  | 0, T, H, s, E, a, w, Q, h, _, _ => by cases h
  | n + 1, T, H, s, E, a, w, Q, h, hs, hQ => by
    have h' : (bnd (f T H) fun s => ite' (isNorm s.x) (loopN n f s.T s.H) (some s)) = some s := h
    simp only [bnd_eq] at h'
    obtain ⟨s1, h1, h2⟩ := h'
    rw [rounds_succ]
    rw [ite'_if] at h2
    split at h2
    · rename_i hn
      have hx := isNorm_eq hn
      refine ih h1 hs fun E' a' w' hs' hg => ?_
      rw [hx]
      exact loop_sound ih n h2 hs' fun E2 a2 w2 hs2 hg2 => hQ E2 a2 w2 hs2 (hg.trans hg2)
    · rename_i hn
      cases h2
      refine ih h1 hs fun E' a' w' hs' hg => ?_
      have := hQ E' a' w' hs' hg
      cases hx : s.x with
      | norm => rw [hx] at hn; exact absurd rfl hn
      | exit i => rw [hx] at this; exact this
      | ret => rw [hx] at this; exact this

theorem evCode_sound (hm : c.P.follows .mixedOrders = true) (hD : DrawSound c N0) {N : Nat} {call : CallF} (hcall : CallOK c N0 call) : ∀ (q : Code) {T : TM} {H : HP} {s : St} {E : Env} {a : Act} {w : World} {Q : Exit → Act → World → Prop},
    evCode c N call q T H = some s → SR c N N0 T H E a w → (∀ E' a' w', SR c N N0 s.T s.H E' a' w' → Goes E E' N0 w w' → Q (exOf s.x) a' w') → q.wp c.P Q a w := by
  intro q
  induction q with
  | skip =>
    intro T H s E a w Q h hs hQ
    have h' : some (⟨.norm, T, H⟩ : St) = some s := h
    cases h'
    exact wp_skip (hQ E a w hs (.refl E N0 w))
  | region id ops draw =>
    intro T H s E a w Q h hs hQ
    have h' : (bnd (evRegion c N call ops draw T H) fun r => some (⟨.norm, r.1, r.2⟩ : St)) = some s := h
    simp only [bnd_eq, Option.some.injEq] at h'
    obtain ⟨⟨T', H'⟩, h1, rfl⟩ := h'
    cases draw with
    | true => exact hD N call hcall id ops T T' H H' E a w Q hs h1 hQ
    | false => exact wp_region_list (evList_sound hcall hs h1 hQ)
  | seq x y ihx ihy =>
    intro T H s E a w Q h hs hQ
    have h' : seqK c N (isDM x) (evCode c N call x) (evCode c N call y) T H = some s := h
    refine wp_seq ?_
    cases hdm : isDM x with
    | none =>
      rw [hdm] at h'
      have h2 : (bnd (evCode c N call x T H) (thenK (evCode c N call y))) = some s := h'
      simp only [bnd_eq, thenK] at h2
      obtain ⟨s1, h1, h2⟩ := h2
      rw [ite'_if] at h2
      refine ihx h1 hs fun E' a' w' hs' hg => ?_
      split at h2
      · rename_i hn
        rw [isNorm_eq hn]
        exact ihy h2 hs' fun E2 a2 w2 hs2 hg2 => hQ E2 a2 w2 hs2 (hg.trans hg2)
      · rename_i hn
        cases h2
        have := hQ E' a' w' hs' hg
        cases hx : s.x with
        | norm => rw [hx] at hn; exact absurd rfl hn
        | exit i => rw [hx] at this; exact this
        | ret => rw [hx] at this; exact this
    | some d =>
      rw [hdm] at h'
      have h2 : forkK c N (evCode c N call y) d T H = some s := h'
      simp only [forkK, tst_eq, bnd_eq, Bool.and_eq_true] at h2
      obtain ⟨⟨⟨hr, hp⟩, hb⟩, s1, h1, s2, h2, hmg⟩ := h2
      unfold isDM at hdm
      split at hdm
      · rename_i id ops draw
        simp only [tst_eq] at hdm
        obtain ⟨rfl, hdo⟩ := hdm
        refine dm_sound hm hdo hb (blt_eq hr) (blt_eq hp) hs fun b a' w' hs' hg => ?_
        cases b with
        | true =>
          exact ihy h1 hs' fun E2 a2 w2 hs2 hg2 => by
            obtain ⟨ex, es⟩ := (merge_sound hmg).1 hs2
            have := hQ E2 a2 w2 es (hg.trans hg2)
            rwa [ex] at this
        | false =>
          exact ihy h2 hs' fun E2 a2 w2 hs2 hg2 => by
            obtain ⟨ex, es⟩ := (merge_sound hmg).2 hs2
            have := hQ E2 a2 w2 es (hg.trans hg2)
            rwa [ex] at this
      · cases hdm
  | cond x p q ihp ihq =>
    intro T H s E a w Q h hs hQ
    have h' : (bnd (ev c T x) (condK (evCode c N call p) (evCode c N call q) T H)) = some s := h
    simp only [bnd_eq] at h'
    obtain ⟨v, hv, h2⟩ := h'
    have hx := ev_sound hs.tr hs.gl hv
    unfold condK at h2
    split at h2
    · rename_i t
      generalize hX : a.eval x = X at hx
      cases hx
      refine wp_cond (t := t) hX ?_
      cases t with
      | true => exact ihp h2 hs hQ
      | false => exact ihq h2 hs hQ
    · cases h2
  | block id body ih =>
    intro T H s E a w Q h hs hQ
    have h' : (bnd (evCode c N call body T H) fun s => some (⟨blockX id s.x, s.T, s.H⟩ : St)) = some s := h
    simp only [bnd_eq, Option.some.injEq] at h'
    obtain ⟨s1, h1, rfl⟩ := h'
    refine wp_block (ih h1 hs fun E' a' w' hs' hg => ?_)
    have := hQ E' a' w' hs' hg
    cases hx : s1.x with
    | norm => rw [hx] at this; exact this
    | ret => rw [hx] at this; exact this
    | exit i =>
      rw [hx] at this
      have e : blockX id (.exit i) = ite' (Nat.beq i id) .norm (.exit i) := rfl
      simp only [e] at this
      rw [ite'_beq] at this
      show if i = id then Q .normal a' w' else Q (.exit i) a' w'
      split at this
      · rename_i hi; rw [if_pos hi]; exact this
      · rename_i hi; rw [if_neg hi]; exact this
  | loop body ih =>
    intro T H s E a w Q h hs hQ
    have h' : loopN c.K (evCode c N call body) T H = some s := h
    exact wp_loop_rounds c.K (loop_sound (fun h1 h2 h3 => ih h1 h2 h3) c.K h' hs hQ)
  | rangeFunc f ps x y _ _ =>
    intro T H s E a w Q h hs hQ
    cases h
  | exit id =>
    intro T H s E a w Q h hs hQ
    have h' : some (⟨.exit id, T, H⟩ : St) = some s := h
    cases h'
    exact wp_exit (hQ E a w hs (.refl E N0 w))
  | scope body ih =>
    intro T H s E a w Q h hs hQ
    refine wp_scope_straight (ih h hs fun E' a' w' hs' hg => ?_)
    have := hQ E' a' w' hs' hg
    cases hx : s.x <;> (rw [hx] at this; exact this)
  | label l =>
    intro T H s E a w Q h hs hQ
    have h' : some (⟨.norm, T, H⟩ : St) = some s := h
    cases h'
    exact wp_label (hQ E a w hs (.refl E N0 w))
  | goto l =>
    intro T H s E a w Q h hs hQ
    cases h
  | ret =>
    intro T H s E a w Q h hs hQ
    have h' : some (⟨.ret, T, H⟩ : St) = some s := h
    cases h'
    exact wp_ret (hQ E a w hs (.refl E N0 w))
  | refuse y =>
    intro T H s E a w Q h hs hQ
    cases h

/-! ### calls -/
theorem argsT_get : ∀ (l : List AV) (i : Nat) (T : TM) (j : Nat) (x : AV), argsT l i T j = some x → (i ≤ j ∧ l[j - i]? = some x) ∨ T j = some x
  | [], i, T, j, x, h => .inr h
  | v :: l, i, T, j, x, h => by
    have h' : argsT l (i + 1) (TM.put T i v) j = some x := h
    rcases argsT_get l (i + 1) _ j x h' with ⟨h1, h2⟩ | h2
    · refine .inl ⟨by omega, ?_⟩
      rw [show j - i = (j - (i + 1)) + 1 by omega]; simpa using h2
    · rcases put_eq h2 with ⟨rfl, rfl⟩ | ⟨_, h3⟩
      · exact .inl ⟨Nat.le_refl _, by simp⟩
      · exact .inr h3

theorem ptrOf_eq {x : AV} {q : Nat × Nat} (h : ptrOf x = some q) : x = .ptr q.1 q.2 := by
  cases x <;> simp only [ptrOf, reduceCtorEq, Option.some.injEq] at h
  subst h; rfl

def resSem (tmps : Array Value) : ResultVar → Sem Value
  | .tmp t => pure (tmps.getD t undef)
  | .cell p t => do loadVar t (← asAddr (tmps.getD p undef))

theorem results_eq (fn : Func) (tmps : Array Value) : results fn tmps = (do
    let vs ← fn.results.mapM (resSem tmps)
    pure (if h : vs.size = 1 then vs[0] else .tuple vs)) := by
  unfold results
  congr 2

theorem resOf_sound {E : Env} {T : TM} {H : HP} {a : Act} {w : World} (hT : TR E T a) (hok : OK E H N0 w) : ∀ {l : List ResultVar} {vs : List AV}, resOf c T H l = some vs →
    ∃ Vs : List Value, VRs E vs Vs ∧ (l.mapM (resSem a.tmps)).run c.P w = .ok Vs w
  | [], vs, h => by
    simp only [resOf, Option.some.injEq] at h
    subst h
    exact ⟨[], .nil, rfl⟩
  | r :: l, vs, h => by
    simp only [resOf, bnd_eq, Option.some.injEq] at h
    obtain ⟨v, hv, r', hr', rfl⟩ := h
    obtain ⟨Vs, h1, h2⟩ := resOf_sound hT hok hr'
    have key : ∃ V, VR E v V ∧ (resSem a.tmps r).run c.P w = .ok V w := by
      cases r with
      | tmp t =>
        obtain ⟨X, hX, hx⟩ := hT t v hv
        exact ⟨X, hx, by simp [resSem, Array.getD_eq_getD_getElem?, hX]⟩
      | cell p t =>
        simp only [resVar, bnd_eq] at hv
        obtain ⟨x, hx, q, hq, hv⟩ := hv
        have := ptrOf_eq hq; subst this
        obtain ⟨X, hX, hxv⟩ := hT p _ hx
        cases hxv
        rename_i B d S hμ
        obtain ⟨V, hV, hvv⟩ := loadVar_sound hok.hr hv (fun ob hob => hob) hμ
        exact ⟨V, hvv, by simp [resSem, Array.getD_eq_getD_getElem?, hX, asAddr, hV]⟩
    obtain ⟨V, k1, k2⟩ := key
    refine ⟨V :: Vs, .cons _ _ _ _ k1 h1, ?_⟩
    rw [List.mapM_cons]
    simp only [Sem.run_bind, k2, Result.andThen_ok, h2, Sem.run_pure]

theorem one_sound {E : Env} {vs : List AV} {Vs : Array Value} (h : VRs E vs Vs.toList) : VR E (oneOrTup vs) (if h : Vs.size = 1 then Vs[0] else .tuple Vs) := by
  have hl := h.length
  simp only [Array.length_toList] at hl
  match vs, h with
  | [], h => rw [dif_neg (by simp at hl; omega)]; exact .tup _ _ h
  | [v], h =>
    have : Vs.size = 1 := by simp at hl; omega
    rw [dif_pos this]
    obtain ⟨X, hX, hv⟩ := h.one
    have := arr_of hX
    subst this
    exact hv
  | v :: v' :: r, h => rw [dif_neg (by simp at hl; omega)]; exact .tup _ _ h

theorem evBody_sound (hm : c.P.follows .mixedOrders = true) (hD : DrawSound c N0) {call : CallF} (hcall : CallOK c N0 call) {f : FuncId} {fn : Func} (hf : c.P.funcs[f]? = some fn) (hname : (fn.name == "runtime.NumGoroutine") = false) {args : List AV} {H H' : HP} {v : AV}
    (h : evBody c call args H fn = some (v, H')) {E : Env} {w : World} {Args : Array Value} (hok : OK E H N0 w) (hG : GL c E) (ha : VRs E args Args.toList) : FnDoes c.P f Args E H' N0 w v := by
  simp only [evBody, bnd_eq, tst_eq, lenX_eq, Nat.ble_eq] at h
  obtain ⟨body, hb, hlen, s, hs, hr⟩ := h
  have hal := ha.length
  simp only [Array.length_toList] at hal
  right
  have hn : fn.name ≠ "runtime.NumGoroutine" := by simpa using hname
  refine ⟨by simp [callFunc, hf, hn, hb], ?_⟩
  refine calls_of_wp hf hb ?_
  have hSR : SR c fn.ntmps N0 (argsT args 0 TM.none) H E { tmps := Args ++ Array.replicate (fn.ntmps - Args.size) undef, defers := [] } w := by
    refine ⟨?_, by simp; omega, rfl, hok, hG⟩
    intro t x hx
    rcases argsT_get _ _ _ _ _ hx with ⟨-, h2⟩ | h2
    · obtain ⟨X, hX, hv⟩ := ha.get t x (by simpa using h2)
      refine ⟨X, ?_, hv⟩
      have hlt := (List.getElem?_eq_some_iff.1 hX).1
      show (Args ++ _)[t]? = _
      rw [Array.getElem?_append_left (by simpa using hlt)]
      simpa using hX
    · cases h2
  refine evCode_sound hm hD hcall body hs hSR fun E' a' w' hs' hg => ?_
  have hres : ∀ x, s.x = x → (∀ i, x ≠ .exit i) → bodyPost c.P fn (Post E H' N0 w v) (exOf x) a' w' := by
    intro x hx hne
    have hr' : (bnd (resOf c s.T s.H fn.results.toList) fun vs => some (oneOrTup vs, s.H)) = some (v, H') := by
      cases x with
      | norm => rw [hx] at hr; exact hr
      | ret => rw [hx] at hr; exact hr
      | exit i => exact absurd rfl (hne i)
    simp only [bnd_eq, Option.some.injEq, Prod.mk.injEq] at hr'
    obtain ⟨vs, hvs, rfl, rfl⟩ := hr'
    obtain ⟨Vs, hV, hrun⟩ := resOf_sound hs'.tr hs'.ok hvs
    have hone := one_sound (E := E') (vs := vs) (Vs := Vs.toArray) (by simpa using hV)
    have hresults : (results fn a'.tmps).run c.P w' = .ok (if h : Vs.toArray.size = 1 then Vs.toArray[0] else .tuple Vs.toArray) w' := by
      rw [results_eq, Sem.run_bind]
      have : (fn.results.mapM (resSem a'.tmps)).run c.P w' = .ok Vs.toArray w' := by
        rw [Array.mapM_eq_mapM_toList]
        rw [map_eq_pure_bind, Sem.run_bind, hrun]
        rfl
      rw [this]
      rfl
    have fin : ∃ V, (results fn a'.tmps).run c.P w' = .ok V w' ∧ Post E s.H N0 w (oneOrTup vs) (.returned V) w' := ⟨_, hresults, _, E', rfl, hs'.ok, hg, hone⟩
    cases x with
    | norm => exact ⟨hs'.df, fin⟩
    | ret => exact ⟨hs'.df, fin⟩
    | exit i => exact absurd rfl (hne i)
  refine hres s.x rfl fun i e => ?_
  rw [e] at hr
  cases hr

/-- What the calls without a Go body must come to. -/
def ExtOK (c : Cx) (N0 : Nat) : Prop :=
  ∀ f k, c.X f = some k → ∀ args H v H', evExt c k args H = some (v, H') → ∀ E w (Args : Array Value), OK E H N0 w → GL c E → VRs E args Args.toList → FnDoes c.P f Args E H' N0 w v

theorem evCall_sound (hm : c.P.follows .mixedOrders = true) (hname : ∀ (f : Nat) fn, c.P.funcs[f]? = some fn → (fn.name == "runtime.NumGoroutine") = false) (hD : DrawSound c N0) (hX : ExtOK c N0) : ∀ n, CallOK c N0 (evCall c n)
  | 0 => fun f args H v H' h => by cases h
  | n + 1 => fun f args H v H' h E w Args hok hG ha => by
    have h' : (Option.rec (motive := fun _ => Option (AV × HP)) (bnd c.P.funcs[f]? (evBody c (evCall c n) args H)) (fun k => evExt c k args H) (c.X f)) = some (v, H') := h
    cases hx : c.X f with
    | some k =>
      rw [hx] at h'
      exact hX f k hx args H v H' h' E w Args hok hG ha
    | none =>
      rw [hx] at h'
      have h2 : bnd c.P.funcs[f]? (evBody c (evCall c n) args H) = some (v, H') := h'
      simp only [bnd_eq] at h2
      obtain ⟨fn, hfn, hb⟩ := h2
      exact evBody_sound hm hD (evCall_sound hm hname hD hX n) hfn (hname f fn hfn) hb hok hG ha
end
end Go.AS
