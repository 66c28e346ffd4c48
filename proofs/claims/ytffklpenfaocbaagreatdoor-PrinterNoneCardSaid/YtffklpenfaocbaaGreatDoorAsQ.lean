/-
  Every operation, and the regions in the order of the text.
-/
import Derived.Test.YtffklpenfaocbaaGreatDoorAsP
set_option linter.unusedVariables false
set_option linter.unusedSimpArgs false
namespace Go.AS
open Go.RowKit

/-- What a call comes to. -/
def Post (E : Env) (H' : HP) (N0 : Nat) (w : World) (v : AV) (e : Ending) (w' : World) : Prop := ∃ V E', e = .returned V ∧ OK E' H' N0 w' ∧ Goes E E' N0 w w' ∧ VR E' v V

def FnDoes (P : Program) (f : FuncId) (Args : Array Value) (E : Env) (H' : HP) (N0 : Nat) (w : World) (v : AV) : Prop :=
  (∃ V w', (callFunc f Args).run P w = .ok (.value V) w' ∧ Post E H' N0 w v (.returned V) w') ∨ ((callFunc f Args).run P w = .ok (.enter f Args) w ∧ Calls P f Args w (Post E H' N0 w v))

def CallOK (c : Cx) (N0 : Nat) (call : CallF) : Prop :=
  ∀ f args H v H', call f args H = some (v, H') → ∀ E w (Args : Array Value), OK E H N0 w → GL c E → VRs E args Args.toList → FnDoes c.P f Args E H' N0 w v

structure SR (c : Cx) (N N0 : Nat) (T : TM) (H : HP) (E : Env) (a : Act) (w : World) : Prop where
  tr : TR E T a
  sz : a.tmps.size = N
  df : a.defers = []
  ok : OK E H N0 w
  gl : GL c E

/-- Whatever comes behind the operation, it is met. -/
def OpDoes (P : Program) (o : Oper) (a : Act) (E : Env) (H' : HP) (N0 : Nat) (w : World) (v : AV) : Prop :=
  ∀ (next : Act → World → Prop) (Q : Exit → Act → World → Prop), (∀ E' V w', OK E' H' N0 w' → Goes E E' N0 w w' → VR E' v V → next (a.put o.dst V) w') → o.wp P a w next Q

section
variable {c : Cx} {E : Env} {T : TM} {a : Act} {N0 : Nat}

theorem does_value {P : Program} {o : Oper} {H' : HP} {w w' : World} {v : AV} {E' : Env} {V : Value} (h : (execOp a.eval o).run P w = .ok (.value V) w') (hk : OK E' H' N0 w') (hg : Goes E E' N0 w w') (hv : VR E' v V) : OpDoes P o a E H' N0 w v := by
  intro next Q hn
  unfold Oper.wp
  rw [h]
  exact hn E' V w' hk hg hv

theorem does_skip {P : Program} {o : Oper} {H' : HP} {w w' : World} {E' : Env} (h : (execOp a.eval o).run P w = .ok .skip w') (hk : OK E' H' N0 w') (hg : Goes E E' N0 w w') : OpDoes P o a E H' N0 w AV.undef := by
  intro next Q hn
  unfold Oper.wp
  rw [h]
  exact hn E' undef w' hk hg (.tup _ _ .nil)

theorem does_call {P : Program} {o : Oper} {H' : HP} {w : World} {v : AV} {f : FuncId} {Args : Array Value} (h : (execOp a.eval o).run P w = (callFunc f Args).run P w) (hf : FnDoes P f Args E H' N0 w v) : OpDoes P o a E H' N0 w v := by
  rcases hf with ⟨V, w', h1, V', E', he, hk, hg, hv⟩ | ⟨h1, h2⟩
  · cases he
    exact does_value (h.trans h1) hk hg hv
  · intro next Q hn
    unfold Oper.wp
    rw [h, h1]
    refine Calls.mono h2 fun e w' ⟨V, E', he, hk, hg, hv⟩ => ?_
    subst he
    exact hn E' V w' hk hg hv

theorem callEff_sound (hT : TR E T a) (hG : GL c E) {H H' : HP} {w : World} (hok : OK E H N0 w) {call : CallF} (hcall : CallOK c N0 call) {o : Oper} {q : Call} (ho : o.op = .call q) {v : AV} (h : callEff c call T H q q.callee = some (v, H')) : OpDoes c.P o a E H' N0 w v := by
  obtain ⟨dst, op, type, pos, after, guard⟩ := o
  simp only at ho
  subst ho
  obtain ⟨callee, args, argTypes⟩ := q
  cases callee with
  | invoke r n => cases h
  | value f =>
    simp only [callEff, bnd_eq] at h
    obtain ⟨vs, hvs, u, hu, h⟩ := h
    have hf := ev_sound hT hG hu
    have ha := evs_sound hT hG hvs
    unfold callA at h
    split at h
    · rename_i fid first captured
      generalize hF : a.eval f = F at hf
      cases hf with
      | fn _ _ _ A B hA hB =>
      have hargs : VRs E (first ++ (vs ++ captured)) ((A ++ args.map a.eval) ++ B).toList := by
        simp only [Array.toList_append, List.append_assoc]
        exact hA.append ((by simpa using ha : VRs E vs (args.map a.eval).toList).append hB)
      refine does_call (f := fid) (Args := (A ++ args.map a.eval) ++ B) ?_ (hcall _ _ _ _ _ h E w _ hok hG hargs)
      simp [execOp, resolve, hF, Deferred.ofValue, invoke]
    · cases h
  | builtin b =>
    simp only [callEff] at h
    cases b <;> simp only [builtinEff, reduceCtorEq] at h
    case append =>
      unfold appendC at h
      split at h
      · rename_i s x t tx e1 e2
        have := arr_of e1; subst this
        have := arr_of e2; subst this
        simp only [bnd_eq] at h
        obtain ⟨sv, hsv, xv, hxv, h⟩ := h
        obtain ⟨E', V, w', h1, h2, h3, h4⟩ := append_sound (ty := type) hok (ev_sound hT hG hsv) (ev_sound hT hG hxv) h
        refine does_value (V := V) (w' := w') ?_ h2 h3 h4
        simp [execOp, resolve, invoke, builtin, h1]
      · cases h
    case copy =>
      unfold copyC at h
      split at h
      · rename_i s x t tx e1 e2
        have := arr_of e1; subst this
        have := arr_of e2; subst this
        simp only [bnd_eq] at h
        obtain ⟨sv, hsv, xv, hxv, d, hd, e, he, sz, hsz, ⟨xs, n⟩, hsrc, h⟩ := h
        have := sliceD_eq he; subst this
        obtain ⟨V, w', h1, h2, h3, h4⟩ := copy_sound (ty := type) hok (ev_sound hT hG hsv) (ev_sound hT hG hxv) hd hsz hsrc h
        refine does_value (V := V) (w' := w') ?_ h2 h3 h4
        simp [execOp, resolve, invoke, builtin, h1]
      · cases h
    case unsafeString =>
      simp only [bnd_eq] at h
      obtain ⟨vs, hvs, h⟩ := h
      obtain ⟨V, w', h1, h2, h3, h4⟩ := unsafeStr_sound (ty := type) (Vs := args.map a.eval) hok (by simpa using evs_sound hT hG hvs) h
      refine does_value (V := V) (w' := w') ?_ h2 h3 h4
      simp [execOp, resolve, invoke, builtin, h1]

theorem opEff_sound (hT : TR E T a) (hG : GL c E) {H H' : HP} {w : World} (hok : OK E H N0 w) {call : CallF} (hcall : CallOK c N0 call) {o : Oper} {v : AV} (h : opEff c call T H o.op = some (v, H')) : OpDoes c.P o a E H' N0 w v := by
  cases ho : o.op <;> rw [ho] at h <;> simp only [opEff, reduceCtorEq] at h
  case store t x y =>
    simp only [bnd_eq] at h
    obtain ⟨u, hu, u', hu', h⟩ := h
    obtain ⟨w', h1, h2, h3, rfl⟩ := store_sound hok (ev_sound hT hG hu) (ev_sound hT hG hu') h
    exact does_skip (w' := w') (by simp [execOp, ho, h1]) h2 h3
  case mapUpdate t m k x =>
    simp only [bnd_eq] at h
    obtain ⟨kv, hkv, xv, hxv, mv, hmv, h⟩ := h
    obtain ⟨w', h1, h2, h3, rfl⟩ := mapUpdate_sound hok (ev_sound hT hG hkv) (ev_sound hT hG hxv) (ev_sound hT hG hmv) h
    exact does_skip (w' := w') (by simp [execOp, ho, h1]) h2 h3
  case insert t m k x =>
    simp only [bnd_eq] at h
    obtain ⟨kv, hkv, xv, hxv, mv, hmv, h⟩ := h
    obtain ⟨w', h1, h2, h3, rfl⟩ := mapUpdate_sound hok (ev_sound hT hG hkv) (ev_sound hT hG hxv) (ev_sound hT hG hmv) h
    exact does_skip (w' := w') (by simp [execOp, ho, h1]) h2 h3
  case call q => exact callEff_sound hT hG hok hcall ho h

theorem byKind_sound (hT : TR E T a) (hG : GL c E) {H H' : HP} {w : World} (hok : OK E H N0 w) {call : CallF} (hcall : CallOK c N0 call) {o : Oper} {v : AV} (k : Kd) (h : byKind c call T H o.op k = some (v, H')) : OpDoes c.P o a E H' N0 w v := by
  cases k <;> simp only [byKind, stay, bnd_eq, Option.some.injEq, Prod.mk.injEq] at h
  case pure =>
    obtain ⟨u, hu, rfl, rfl⟩ := h
    obtain ⟨V, h1, h2⟩ := opPure_sound hT hG hu w
    exact does_value h1 hok (.refl E N0 w) h2
  case read =>
    obtain ⟨u, hu, rfl, rfl⟩ := h
    obtain ⟨V, h1, h2⟩ := opRead_sound hT hG hok.hr (fun b ob _ h => h) hu
    exact does_value h1 hok (.refl E N0 w) h2
  case alloc =>
    obtain ⟨V, ob, S, h1, h2, h3⟩ := opAlloc_sound hT hG h w
    obtain ⟨k1, k2⟩ := hok.made h3
    exact does_value h1 k1 k2 (h2 _ (Env.ext_at _ _ _))
  case eff => exact opEff_sound hT hG hok hcall h

theorem opAny_eq (call : CallF) (H : HP) (o : Op) : opAny c call T H o = byKind c call T H o (kindOf o) := by cases o <;> rfl

theorem opAny_sound (hT : TR E T a) (hG : GL c E) {H H' : HP} {w : World} (hok : OK E H N0 w) {call : CallF} (hcall : CallOK c N0 call) {o : Oper} {v : AV} (h : opAny c call T H o.op = some (v, H')) : OpDoes c.P o a E H' N0 w v := by
  rw [opAny_eq] at h
  exact byKind_sound hT hG hok hcall _ h

/-! ### temporaries -/
theorem TR.put {N : Nat} (h : TR E T a) (hs : a.tmps.size = N) {dst : Option Tmp} {v : AV} {V : Value} (hv : VR E v V) {T' : TM} (hp : putT N T dst v = some T') : TR E T' (a.put dst V) := by
  cases dst with
  | none =>
    have h' : some T = some T' := hp
    cases h'; exact h
  | some d =>
    have h' : tst (Nat.blt d N) (some (TM.put T d v)) = some T' := hp
    simp only [tst_eq, Option.some.injEq] at h'
    obtain ⟨hd, rfl⟩ := h'
    have hd := blt_eq hd
    intro t x hx
    have hx' : ite' (Nat.beq t d) (some v) (T t) = some x := hx
    rw [ite'_beq] at hx'
    show ∃ X, (a.tmps.setIfInBounds d V)[t]? = some X ∧ _
    split at hx'
    · rename_i e
      subst e
      cases hx'
      exact ⟨V, by simp [show t < a.tmps.size by omega], hv⟩
    · rename_i e
      rw [Array.getElem?_setIfInBounds_ne (Ne.symm e)]
      exact h t x hx'
theorem put_size (dst : Option Tmp) (V : Value) : (a.put dst V).tmps.size = a.tmps.size := by cases dst <;> simp [Act.put]
theorem put_defers (dst : Option Tmp) (V : Value) : (a.put dst V).defers = a.defers := by cases dst <;> rfl

theorem wanted_sound (hT : TR E T a) {ops : Array Oper} {o : Oper} {b : Bool} (h : wanted ops.toList T o.guard = some b) : Region.wanted o (yielded ops a.tmps) = b := by
  unfold Region.wanted
  cases hg : o.guard with
  | none =>
    rw [hg] at h
    have h' : some true = some b := h
    cases h'; rfl
  | some q =>
    obtain ⟨j, want⟩ := q
    rw [hg] at h
    have h' : (bnd (nthX ops.toList j) fun o => bnd o.dst fun d => bnd (T d) (boolOf want)) = some b := h
    simp only [bnd_eq, nthX_eq, Array.getElem?_toList] at h'
    obtain ⟨o', ho', d, hd, x, hx, hb⟩ := h'
    obtain ⟨X, hX, hv⟩ := hT d x hx
    unfold boolOf at hb
    split at hb
    · cases hv
      cases hb
      simp [yielded, ho', hd, hX]
    · cases hv
      cases hb
      simp [yielded, ho', hd, hX]
    · cases hb

theorem undef_vr : VR E AV.undef undef := .tup _ _ .nil

theorem evList_sound {N : Nat} {call : CallF} (hcall : CallOK c N0 call) {ops : Array Oper} {Q : Exit → Act → World → Prop} : ∀ {l : List Oper} {T T' : TM} {H H' : HP} {E : Env} {a : Act} {w : World}, SR c N N0 T H E a w →
    evList c N call ops.toList l T H = some (T', H') → (∀ E' a' w', SR c N N0 T' H' E' a' w' → Goes E E' N0 w w' → Q .normal a' w') → wpList c.P ops Q l a w
  | [], T, T', H, H', E, a, w, hs, h, hQ => by
    have h' : some (T, H) = some (T', H') := h
    cases h'
    exact hQ E a w hs (.refl E N0 w)
  | o :: l, T, T', H, H', E, a, w, hs, h, hQ => by
    have h' : (bnd (wanted ops.toList T o.guard) fun w => ite' w
      (bnd (opAny c call T H o.op) fun r => bnd (putT N T o.dst r.1) fun T' => evList c N call ops.toList l T' r.2)
      (bnd (putT N T o.dst .undef) fun T' => evList c N call ops.toList l T' H)) = some (T', H') := h
    simp only [bnd_eq] at h'
    obtain ⟨b, hb, h'⟩ := h'
    have hw := wanted_sound hs.tr hb
    unfold wpList
    cases b with
    | true =>
      rw [if_pos hw]
      simp only [ite'_true, bnd_eq] at h'
      obtain ⟨⟨v, H1⟩, hop, T1, hp, h'⟩ := h'
      refine .inl (opAny_sound hs.tr hs.gl hs.ok hcall hop _ Q fun E' V w' hk hg hv => ?_)
      exact evList_sound hcall ⟨TR.put (hs.tr.mono hg.le) hs.sz hv hp, (put_size _ _).trans hs.sz, (put_defers _ _).trans hs.df, hk, hs.gl.mono hg.le⟩ h' fun E2 a2 w2 h2 g2 => hQ E2 a2 w2 h2 (hg.trans g2)
    | false =>
      rw [if_neg (by simp [hw])]
      simp only [ite'_false, bnd_eq] at h'
      obtain ⟨T1, hp, h'⟩ := h'
      exact evList_sound hcall ⟨TR.put hs.tr hs.sz undef_vr hp, (put_size _ _).trans hs.sz, (put_defers _ _).trans hs.df, hs.ok, hs.gl⟩ h' fun E2 a2 w2 h2 g2 => hQ E2 a2 w2 h2 g2
end
end Go.AS
