/-
  The regions that draw their order are met, whatever order it is.
-/
import Derived.Test.YtffklpenfaocbaaGreatDoorAsZd
set_option linter.unusedVariables false
set_option linter.unusedSimpArgs false
namespace Go.AS
open Go.RowKit

namespace Ctx
variable {X : Ctx}

/-- What the check of the run says. -/
structure Drawn (X : Ctx) : Prop where
  fits : X.Fits
  effs : effsOk X.c (masks X.ops.toList []) X.its X.effs = true
  reads : ∀ x ∈ X.its, x.is .read = true → below x.r.H.nxt x.r.v = true ∧ readOk X.c (masks X.ops.toList []) x [] X.effs (X.Hs 0) = true

theorem effs_sorted : X.effs.Pairwise (fun x y => x.i < y.i) := (items_sorted _ _ _).filter _

/-- Two effects in the text's order: bound, or the last two stores. -/
theorem Drawn.pair (h : X.Drawn) {k j : Nat} (hk : X.Is .eff k) (hj : X.Is .eff j) (hlt : k < j) : AS.mk (masks X.ops.toList []) j k = true ∨
    ∃ (a : List It) (e e' : It), X.effs = a ++ [e, e'] ∧ e.i = k ∧ e'.i = j ∧ lastTwo X.c (masks X.ops.toList []) X.its e e' = true := by
  obtain ⟨e, he, rfl⟩ := mem_effs hk
  obtain ⟨e', he', rfl⟩ := mem_effs hj
  obtain ⟨a, b, hab⟩ := List.append_of_mem he
  have hs := effs_sorted (X := X)
  have hb : e' ∈ b := by
    rw [hab] at he' hs
    rcases List.mem_append.1 he' with h1 | h1
    · rw [List.pairwise_append] at hs
      have := hs.2.2 e' h1 e (by simp)
      omega
    · rcases List.mem_cons.1 h1 with rfl | h1
      · omega
      · exact h1
  rcases effsOk_split h.effs a b e e' hab hb with h1 | ⟨rfl, h1⟩
  · exact .inl h1
  · exact .inr ⟨a, e, e', hab, rfl, rfl, h1⟩

theorem storeCls_eq {c : Cx} {T : TM} {H : HP} {o : Op} {n : Nat} (h : storeCls c T H o = some n) : ∃ t ax xx b off k, o = .store t ax xx ∧ ev c T ax = some (.ptr b off) ∧ H.blk b = some k ∧ k.cls = n := by
  unfold storeCls at h
  split at h
  · rename_i t ax xx
    split at h
    · rename_i b off hx
      simp only [bnd_eq, Option.some.injEq] at h
      obtain ⟨k, h1, h2⟩ := h
      exact ⟨_, _, _, _, _, _, rfl, hx, h1, h2⟩
    · cases h
  · cases h

theorem twoCls_eq {x y : Option Nat} (h : twoCls x y = true) : ∃ a b, x = some a ∧ y = some b ∧ a ≠ b := by
  unfold twoCls at h
  split at h
  · rename_i a b
    refine ⟨a, b, rfl, rfl, fun e => ?_⟩
    subst e
    rw [Nat.beq_refl] at h; cases h
  · cases h

theorem Drawn.lp (h : X.Drawn) {a : List It} {e e' : It} (hab : X.effs = a ++ [e, e']) (hl : lastTwo X.c (masks X.ops.toList []) X.its e e' = true) :
    ∃ t t' ax xx ax' xx' v v' b off b' off' k k' H1, LP X e.i e'.i e.o e'.o e.r e'.r t t' ax xx ax' xx' v v' b off b' off' k k' H1 := by
  have hf := h.fits
  have he : e ∈ X.effs := by rw [hab]; simp
  have he' : e' ∈ X.effs := by rw [hab]; simp
  have hs := effs_sorted (X := X)
  rw [hab, List.pairwise_append] at hs
  have hlt : e.i < e'.i := by
    have := hs.2.1
    rw [List.pairwise_cons] at this
    exact this.1 e' (by simp)
  obtain ⟨p1, p2⟩ := its_mem (effs_mem he).1
  obtain ⟨p1', p2'⟩ := its_mem (effs_mem he').1
  obtain ⟨o0, r0, q1, q2, q3, q4⟩ := (effs_mem he).2
  rw [p1] at q1; cases q1
  rw [p2] at q2; cases q2
  obtain ⟨o0', r0', q1', q2', q3', q4'⟩ := (effs_mem he').2
  rw [p1'] at q1'; cases q1'
  rw [p2'] at q2'; cases q2'
  unfold lastTwo at hl
  simp only [Bool.and_eq_true, List.all_eq_true, Bool.or_eq_true, Bool.not_eq_true'] at hl
  obtain ⟨⟨⟨⟨h1, h2⟩, h3⟩, h4⟩, h5⟩ := hl
  obtain ⟨n1, n2, m1, m2, m3⟩ := twoCls_eq h2
  obtain ⟨t, ax, xx, b, off, k, e1, e2, e3, e4⟩ := storeCls_eq m1
  obtain ⟨t', ax', xx', b', off', k', e1', e2', e3', e4'⟩ := storeCls_eq m2
  have hH := (hf.part p1 p2).2.1
  rw [hH] at e3 e3'
  have hkd := hf.kind p1 p2 q3
  rw [q4] at hkd
  simp only [byKind, e1, opEff, bnd_eq, e2, Option.some.injEq] at hkd
  obtain ⟨v, hv, _, rfl, hst⟩ := hkd
  obtain ⟨z, hz⟩ := Option.isSome_iff_exists.1 h3
  obtain ⟨zv, zH⟩ := z
  rw [hH] at hz
  simp only [e1', opEff, bnd_eq, e2', Option.some.injEq] at hz
  obtain ⟨v', hv', _, rfl, hz⟩ := hz
  obtain ⟨z1, z2, -⟩ := storeA_wr hz
  refine ⟨t, t', ax, xx, ax', xx', v, v', b, off, b', off', k, k', zH, p1, p2, q3, q4, p1', p2', q3', q4', hlt, ?_, ?_, ?_, ?_, e1, hv, e2, e1', hv', e2', e3, e3', by rw [e4, e4']; exact m3, z1, z2, ?_, ?_⟩
  · intro j hj
    obtain ⟨x, hx, rfl⟩ := mem_effs hj
    have hx' := hx
    rw [hab, List.mem_append] at hx'
    rcases hx' with hxa | hx2
    · right; right
      obtain ⟨a1, a2, rfl⟩ := List.append_of_mem hxa
      have hlt1 := hs.2.2 x (by simp) e (by simp)
      have hab' : X.effs = a1 ++ x :: (a2 ++ [e, e']) := by rw [hab]; simp
      refine ⟨hlt1, ?_, ?_⟩
      · rcases effsOk_split h.effs a1 _ x e hab' (by simp) with h6 | ⟨h6, -⟩
        · exact h6
        · have := congrArg List.length h6
          simp at this
      · rcases effsOk_split h.effs a1 _ x e' hab' (by simp) with h6 | ⟨h6, -⟩
        · exact h6
        · have := congrArg List.length h6
          simp at this
    · simp only [List.mem_cons, List.not_mem_nil, or_false] at hx2
      rcases hx2 with rfl | rfl
      · exact .inl rfl
      · exact .inr (.inl rfl)
  · rintro j ⟨o, r, g1, g2, g3, g4⟩
    have := (h1 _ (mem_its g1 g2)).1.1
    rcases this with h6 | h6
    · exfalso
      simp [It.is, g3, g4] at h6
    · exact h6
  · rintro j ⟨o, r, g1, g2, g3, g4⟩
    have := (h1 _ (mem_its g1 g2)).1.2
    rcases this with h6 | h6
    · exfalso
      simp [It.is, g3, g4] at h6
    · exact h6
  · intro j oj hj ed hm hb hon
    have hrl : j < X.rs.length := by rw [hf.run.len]; simpa using (Array.getElem?_eq_some_iff.1 hj).1
    have := (h1 _ (mem_its hj (List.getElem?_eq_getElem hrl))).2
    rcases this with h6 | h6
    · exfalso
      rw [List.any_eq_false] at h6
      exact h6 ed (by simpa using hm) (by rw [hb, hon, Nat.beq_refl]; rfl)
    · exact h6
  · cases hd : e.o.dst with
    | none => rfl
    | some _ => rw [hd] at h4; cases h4
  · cases hd : e'.o.dst with
    | none => rfl
    | some _ => rw [hd] at h5; cases h5

def Inv (X : Ctx) (L : Nat → Bool) (a : Act) (w : World) : Prop := (∃ p F, X.DI L p F a w) ∨ Late X L a w

theorem DI.step (hd : X.Drawn) (hcall : CallOK X.c X.N0 X.call) {L : Nat → Bool} {p : Nat} {F : Env} {a : Act} {w : World} (h : X.DI L p F a w) {j : Nat} {o : Oper} (ho : X.ops[j]? = some o) (hj : L j = false)
    (hpre : ∀ e ∈ o.after, Region.binds .any e = true → L e.on = true) {Q : Exit → Act → World → Prop} : wpOp X.c.P X.ops Q j (Inv X fun k => k == j || L k) a w := by
  have hf := hd.fits
  have hrl : j < X.rs.length := by rw [hf.run.len]; simpa using (Array.getElem?_eq_some_iff.1 ho).1
  have hr : X.rs[j]? = some X.rs[j] := List.getElem?_eq_getElem hrl
  obtain ⟨hp, -, -⟩ := hf.part ho hr
  have hwt := wanted_sound (h.tr hf ho hr hj hpre) hp.wn
  refine wpOp_of ho hwt (fun hw => ?_) (fun hw => ?_)
  · cases hk : kindOf o.op with
    | pure => exact h.pure hf ho hr hj hpre hw hk fun a' h' => .inl ⟨p, F, h'⟩
    | alloc => exact h.alloc hf ho hr hj hpre hw hk fun F' a' w' h' => .inl ⟨p, F', h'⟩
    | read =>
      have hx := mem_its ho hr
      have hxr : (⟨j, o, X.rs[j]⟩ : It).is .read = true := by simp [It.is, hw, hk]
      obtain ⟨h1, h2⟩ := hd.reads _ hx hxr
      rw [show (⟨j, o, X.rs[j]⟩ : It).r.H = X.Hs j from (hf.part ho hr).2.1] at h1
      obtain ⟨t1, t2, s1, s2, s3, s4⟩ := h.st.split hf
      rw [s1] at h2
      have key : opRead X.c X.rs[j].T (X.Hs p) o.op = some X.rs[j].v := by
        rcases readOk_split t1 t2 [] _ h2 with ⟨e, he, h3⟩ | ⟨e, he, h3⟩ | h3
        · rw [List.nil_append] at he
          have heL := s2 e he
          have hee : e ∈ X.effs := by rw [s1]; exact List.mem_append_left _ he
          obtain ⟨g1, -⟩ := its_mem (effs_mem hee).1
          have := mk_sound (textOk_back hf.text) h.cl g1 (h.cl e.i e.o g1 heL) h3
          rw [hj] at this; cases this
        · have := mk_sound (textOk_back hf.text) h.cl ho hpre h3
          rw [s3 e he] at this; cases this
        · rw [s4] at h3
          exact readSame_eq h3
      exact h.read hf ho hr hj hpre hw hk h1 key fun a' h' => .inl ⟨p, F, h'⟩
    | eff =>
      have hIs : X.Is .eff j := ⟨o, _, ho, hr, hw, hk⟩
      by_cases hfirst : ∀ k, X.Is .eff k → k < j → k < p
      · exact h.eff hf hcall ho hr hj hpre hw hk hfirst fun F' a' w' h' => .inl ⟨_, F', h'⟩
      · have : ∃ k, X.Is .eff k ∧ k < j ∧ ¬ k < p := by
          rcases Classical.em (∃ k, X.Is .eff k ∧ k < j ∧ ¬ k < p) with h1 | h1
          · exact h1
          · exact absurd (fun k h2 h3 => Classical.byContradiction fun h4 => h1 ⟨k, h2, h3, h4⟩) hfirst
        obtain ⟨k, k1, k2, k3⟩ := this
        have hLk : L k = false := by
          cases hL : L k with
          | false => rfl
          | true => exact absurd (h.st.todo k k1 hL) k3
        rcases hd.pair k1 hIs k2 with h1 | ⟨l, e, e', hab, rfl, rfl, hl⟩
        · have := mk_sound (textOk_back hf.text) h.cl ho hpre h1
          rw [hLk] at this; cases this
        · obtain ⟨t, t', ax, xx, ax', xx', v, v', b, off, b', off', kb, kb', H1, hlp⟩ := hd.lp hab hl
          have e1 : e'.o = o := by
            have := hlp.ho'
            rw [ho] at this; cases this; rfl
          rw [← e1] at hpre ⊢
          exact hlp.first hf h hLk hj hpre fun w' h' => .inr h'
  · refine .inl ⟨p, F, h.stay hf ho hr hj hpre (not_is ho hr (.inl hw)) (not_is ho hr (.inl hw)) ?_⟩
    rw [(hp.no hw).1]; exact undef_any

theorem Late.step (hd : X.Drawn) {L : Nat → Bool} {a : Act} {w : World} (h : Late X L a w) {j : Nat} {o : Oper} (ho : X.ops[j]? = some o) (hj : L j = false)
    (hpre : ∀ e ∈ o.after, Region.binds .any e = true → L e.on = true) {Q : Exit → Act → World → Prop} : wpOp X.c.P X.ops Q j (Inv X fun k => k == j || L k) a w := by
  have hf := hd.fits
  have hrl : j < X.rs.length := by rw [hf.run.len]; simpa using (Array.getElem?_eq_some_iff.1 ho).1
  have hr : X.rs[j]? = some X.rs[j] := List.getElem?_eq_getElem hrl
  obtain ⟨hp, -, -⟩ := hf.part ho hr
  obtain ⟨s, s', o1, o', r1, r', t, t', ax, xx, ax', xx', v, v', b, off, b', off', kb, kb', H1, hlp, p, F, w0, B', d', S', Xs', hl⟩ := h
  have hcl := hl.closed hlp.ho'
  have hjs' : j ≠ s' := fun e => by
    subst e
    rw [hl.hs'] at hj; cases hj
  have hj' : (L j && !(j == s')) = false := by simp [hj]
  have hnm := hlp.nm hf hcl ho hpre hl.hs
  have hpre2 : ∀ e ∈ o.after, Region.binds .any e = true → (L e.on && !(e.on == s')) = true := fun e he hb => by simp [hpre e he hb, hnm e he hb]
  have hpre' : ∀ e ∈ o'.after, Region.binds .any e = true → L e.on = true := fun e he hb => by
    have := hl.pre' e he hb
    simp only [Bool.and_eq_true] at this
    exact this.1
  have hmk : ∀ k, AS.mk (masks X.ops.toList []) s' k = true → L k = true := fun k hk => mk_sound (textOk_back hf.text) hcl hlp.ho' hpre' hk
  have hwt := wanted_sound (hl.di.tr hf ho hr hj' hpre2) hp.wn
  have hLL : (fun k => k == j || (L k && !(k == s'))) = fun k => (k == j || L k) && !(k == s') := by
    funext k
    by_cases e : k = s'
    · subst e; simp; omega
    · have e' : (k == s') = false := by simpa using e
      show (k == j || (L k && !(k == s'))) = ((k == j || L k) && !(k == s'))
      rw [e']; simp
  have again : j ≠ s → ∀ a', X.DI (fun k => k == j || (L k && !(k == s'))) p F a' w0 → Inv X (fun k => k == j || L k) a' w := by
    intro hne a' h'
    rw [hLL] at h'
    exact .inr ⟨s, s', o1, o', r1, r', t, t', ax, xx, ax', xx', v, v', b, off, b', off', kb, kb', H1, hlp, p, F, w0, B', d', S', Xs', h',
      by simp [hl.hs]; omega, by simp [hl.hs'], fun e he hb => by
        have := hl.pre' e he hb
        simp only [Bool.and_eq_true] at this
        simp [this.1]
        simpa using this.2, hl.mu, hl.vr, hl.eq⟩
  refine wpOp_of ho hwt (fun hw => ?_) (fun hw => ?_)
  · cases hk : kindOf o.op with
    | pure =>
      refine hl.di.pureAt hf ho hr hj' hpre2 hw hk (again fun e => ?_)
      subst e
      have := hlp.ho
      rw [ho] at this; cases this
      rw [hlp.hk] at hk; cases hk
    | alloc =>
      have := hmk j (hlp.allocs j ⟨o, _, ho, hr, hw, hk⟩)
      rw [hj] at this; cases this
    | read =>
      have := hmk j (hlp.reads j ⟨o, _, ho, hr, hw, hk⟩)
      rw [hj] at this; cases this
    | eff =>
      rcases hlp.effs j ⟨o, _, ho, hr, hw, hk⟩ with rfl | rfl | ⟨-, -, h3⟩
      · have e1 : o1 = o := by
          have := hlp.ho
          rw [ho] at this; cases this; rfl
        subst e1
        exact hlp.second hf hl hpre fun p F w' h' => .inl ⟨p, F, h'⟩
      · exact absurd rfl hjs'
      · have := hmk j h3
        rw [hj] at this; cases this
  · refine again (fun e => ?_) _ (hl.di.stay hf ho hr hj' hpre2 (not_is ho hr (.inl hw)) (not_is ho hr (.inl hw)) ?_)
    · subst e
      have := hlp.hr
      rw [hr] at this; cases this
      rw [hlp.hw] at hw; cases hw
    · rw [(hp.no hw).1]; exact undef_any

theorem Env.cut_all {F : Env} {n : Nat} (h : ∀ i x, F.μ i = some x → i < n) : F.cut n = F := by
  obtain ⟨m, q⟩ := F
  unfold Env.cut
  congr 1
  funext i
  show (if i < n then m i else none) = m i
  by_cases hi : i < n
  · rw [if_pos hi]
  · rw [if_neg hi]
    cases hm : m i with
    | none => rfl
    | some x => exact absurd (h i x hm) hi

/-- All is done. -/
theorem DI.fin (hf : X.Fits) {L : Nat → Bool} {p : Nat} {F : Env} {a : Act} {w : World} (h : X.DI L p F a w) (hall : ∀ i, i < X.ops.size → L i = true) :
    SR X.c X.N X.N0 (X.Ts X.ops.size) (X.Hs X.ops.size) F a w := by
  have hlt : ∀ i x, F.μ i = some x → i < (X.Hs X.ops.size).nxt := by
    intro i x hx
    rcases h.on i x hx with h1 | ⟨k, ⟨k1, -, -⟩, rfl⟩
    · have := hf.nxt h.st.le (Nat.le_refl _); omega
    · have h1 := is_lt k1
      have h2 := hf.allocNxt k1
      have h3 := hf.nxt (i := k + 1) (j := X.ops.size) (by omega) (Nat.le_refl _)
      omega
  have hok := h.assemble hf X.ops.size h.st.le (Nat.le_refl _) (fun k hk _ _ => hall k (is_lt hk)) (fun k hk hp _ => by
    have := h.st.todo k hk (hall k (is_lt hk)); omega)
  rw [Env.cut_all hlt] at hok
  refine ⟨fun t x hx => ?_, h.sz, h.df, hok, h.gl.mono (Env.cut_le F _)⟩
  rcases hf.run.tmp X.ops.size (by simp) t x hx with ⟨i, o, r, hi, ho, hr, hd, htN, hv⟩ | ⟨hno, h0⟩
  · obtain ⟨V, hV, hvv⟩ := h.tm i o r t (by simpa using ho) hr (hall i hi) hd htN
    refine ⟨V, hV, ?_⟩
    rw [← hv]; exact hvv.mono (Env.cut_le F _)
  · obtain ⟨V, hV, hvv⟩ := h.t0 t x (fun i o ho hL => hno i o (Array.getElem?_eq_some_iff.1 ho).1 (by simpa using ho)) h0
    exact ⟨V, hV, hvv.mono (Env.cut_le F _)⟩
end Ctx

theorem draw_sound {c : Cx} (hm : c.P.follows .mixedOrders = true) (N0 : Nat) : DrawSound c N0 := by
  intro N call hcall id ops T T' H H' E a w Q hs h hQ
  have h' : (tst (textOk ops) <| bnd (evDraw c N call ops ops.toList T H) fun s => tst (drawOk c (masks ops.toList []) H (items ops.toList s.rs 0)) (some (s.T, s.H))) = some (T', H') := h
  simp only [tst_eq, bnd_eq, Option.some.injEq, Prod.mk.injEq] at h'
  obtain ⟨htext, d, hd, hok, rfl, rfl⟩ := h'
  obtain ⟨Ts, Hs, e1, e2, e3, e4, hrun⟩ := evDraw_run hd
  let X : Ctx := ⟨c, N, N0, call, ops, d.rs, Ts, Hs, E, w⟩
  unfold drawOk at hok
  simp only [Bool.and_eq_true, List.all_eq_true, Bool.or_eq_true, Bool.not_eq_true'] at hok
  obtain ⟨⟨o1, o2⟩, o3⟩ := hok
  have hmono : ∀ j, j < ops.size → (Hs j).nxt ≤ (Hs (j + 1)).nxt := by
    intro j hj
    have hrl : j < d.rs.length := by rw [hrun.len]; simpa using hj
    have ho := Array.getElem?_eq_getElem hj
    have hr := List.getElem?_eq_getElem hrl
    have := o2 _ (Ctx.mem_its (X := X) ho hr)
    rw [Nat.ble_eq] at this
    obtain ⟨-, h1, h2⟩ := hrun.part j _ _ ((Array.getElem?_toList).trans ho) hr
    rw [← h1, ← h2]; exact this
  have hfits : X.Fits := ⟨hrun, htext, hmono⟩
  have hdrawn : X.Drawn := by
    refine ⟨hfits, o1, fun x hx hr => ?_⟩
    have := o3 x hx
    rw [hr] at this
    rcases this with h1 | h1
    · cases h1
    · refine ⟨h1.1, ?_⟩
      show readOk c _ x [] _ (Hs 0) = true
      rw [e2]; exact h1.2
  have hsz : Ts ops.size = d.T := by rw [← e3]; simp
  have hHz : Hs ops.size = d.H := by rw [← e4]; simp
  refine wp_region_inv hm (textOk_back htext) (Ctx.Inv X) (fun L j o a' w' ho hj hpre hI => ?_) (fun L a' w' hall hI => ?_) ?_
  · rcases hI with ⟨p, F, hI⟩ | hI
    · exact hI.step hdrawn hcall ho hj hpre
    · exact hI.step hdrawn ho hj hpre
  · rcases hI with ⟨p, F, hI⟩ | ⟨s, s', o1, o', r1, r', t, t', ax, xx, ax', xx', v, v', b, off, b', off', kb, kb', H1, hlp, p, F, w0, B', d', S', Xs', hl⟩
    · have := hI.fin hfits hall
      exact hQ F a' w' (by rw [← hsz, ← hHz]; exact this) hI.go
    · have := hall s (Array.getElem?_eq_some_iff.1 hlp.ho).1
      rw [hl.hs] at this; cases this
  · have hcut : E.cut (Hs 0).nxt = E := Ctx.Env.cut_all fun i x hx => by
      rcases Nat.lt_or_ge i (Hs 0).nxt with h1 | h1
      · exact h1
      · rw [hs.ok.fr i (by rw [← e2]; exact h1)] at hx; cases hx
    refine .inl ⟨0, E, fun j o _ hL => (by cases hL), ⟨Nat.zero_le _, fun j _ hj => absurd hj (by omega), fun j _ hj => (by cases hj), fun j _ hj => absurd hj (by omega), .inl rfl⟩, ?_, fun j hj => ?_, fun i x hx => .inl ?_, hs.ok.drew.bd,
      fun i o r dd _ _ hL => (by cases hL), fun t x _ hx => ?_, hs.sz, hs.df, (Goes.refl E N0 w).drew, ?_⟩
    · show OK (E.cut (Hs 0).nxt) (Hs 0) N0 w.drew
      rw [hcut, e2]; exact hs.ok.drew
    · obtain ⟨-, h2, -⟩ := hj
      cases h2
    · show i < (Hs 0).nxt
      rw [e2]; exact hs.ok.lt hx
    · show ∃ V, a.tmps[t]? = some V ∧ VR (E.cut (Hs 0).nxt) x V
      rw [hcut]
      exact hs.tr t x (by rw [← e1]; exact hx)
    · show GL c (E.cut (Hs 0).nxt)
      rw [hcut]; exact hs.gl
end Go.AS
