/-
  The last two stores of a drawn region, in either order: two real stores commute; a store's run asks its own block alone.
-/
import Derived.Test.YtffklpenfaocbaaGreatDoorAsZc
set_option linter.unusedVariables false
set_option linter.unusedSimpArgs false
namespace Go.AS
open Go.RowKit

theorem HR.up {E E' : Env} (hE : E.le E') {M : Nat → Option Ob} {C : Nat → Option Cls} {N0 : Nat} {w : World} (h : HR E M C N0 w) : HR E' M C N0 w where
  obj := fun i ob hi => let ⟨B, d, S, hμ, hr⟩ := h.obj i ob hi; ⟨B, d, S, hE.2 _ _ hμ, hr.mono hE⟩
  sep := by
    intro i j oi oj B d S d' S' hij hi hj mi mj hB
    obtain ⟨B1, d1, S1, m1, -⟩ := h.obj i oi hi
    obtain ⟨B2, d2, S2, m2, -⟩ := h.obj j oj hj
    have e1 := hE.2 _ _ m1
    rw [mi] at e1; cases e1
    have e2 := hE.2 _ _ m2
    rw [mj] at e2; cases e2
    exact h.sep i j oi oj B d S d' S' hij hi hj m1 m2 hB

theorem modify_comm {α : Type} (h : Array α) {i j : Nat} (hij : i ≠ j) (f g : α → α) : (h.modify i f).modify j g = (h.modify j g).modify i f := by
  apply Array.ext_getElem?
  intro k
  simp only [Array.getElem?_modify]
  by_cases h1 : i = k
  · by_cases h2 : j = k
    · exact absurd (h1.trans h2.symm) hij
    · simp [h1, h2]
  · by_cases h2 : j = k <;> simp [h1, h2]

theorem setCell_comm (w : World) {a b : Addr} (h : a.block ≠ b.block) (u v : Value) : (w.setCell a u).setCell b v = (w.setCell b v).setCell a u := by
  unfold World.setCell
  simp only [modify_comm w.heap h]

theorem setCells_setCell_comm {B B' : Nat} (h : B ≠ B') (o' : Nat) (v : Value) : ∀ (Xs : List Value) (o : Nat) (w : World), (w.setCells B o Xs).setCell ⟨B', o', none⟩ v = (w.setCell ⟨B', o', none⟩ v).setCells B o Xs
  | [], o, w => rfl
  | x :: Xs, o, w => by
    show (((w.setCell ⟨B, o, none⟩ x).setCells B (o + 1) Xs)).setCell ⟨B', o', none⟩ v = (((w.setCell ⟨B', o', none⟩ v).setCell ⟨B, o, none⟩ x).setCells B (o + 1) Xs)
    rw [setCells_setCell_comm h o' v Xs, setCell_comm w (a := ⟨B, o, none⟩) (b := ⟨B', o', none⟩) h]

theorem setCells_comm {B B' : Nat} (h : B ≠ B') (o : Nat) (Xs : List Value) : ∀ (Ys : List Value) (o' : Nat) (w : World), (w.setCells B o Xs).setCells B' o' Ys = (w.setCells B' o' Ys).setCells B o Xs
  | [], o', w => rfl
  | y :: Ys, o', w => by
    show ((w.setCells B o Xs).setCell ⟨B', o', none⟩ y).setCells B' (o' + 1) Ys = ((w.setCell ⟨B', o', none⟩ y).setCells B' (o' + 1) Ys).setCells B o Xs
    rw [setCells_setCell_comm h, setCells_comm h o Xs Ys]

theorem storeA_wr {P : Program} {H H' : HP} {t : TypeId} {v r : AV} {b off : Nat} (h : storeA P H t v (.ptr b off) = some (r, H')) :
    szOf P t = some v.cells.length ∧ H.wr b off v.cells = some H' ∧ r = AV.undef := by
  simp only [storeA, bnd_eq, tst_eq, Option.some.injEq, Prod.mk.injEq, Nat.beq_eq, lenX_eq] at h
  obtain ⟨n, hn, hl, H1, hw, rfl, rfl⟩ := h
  rw [hl]
  exact ⟨hn, hw, rfl⟩

/-- A store's run asks its own block alone. -/
theorem store_anyhow {c : Cx} {E : Env} {T : TM} {a : Act} (hT : TR E T a) (hG : GL c E) {H H1 : HP} {N0 : Nat} {w : World} (hr : HR E H.obs.get H.cls.get N0 w) {o : Oper} {t : TypeId} {ax xx : Operand} (ho : o.op = .store t ax xx)
    {v : AV} {b off : Nat} (hv : ev c T xx = some v) (hx : ev c T ax = some (.ptr b off)) (hsz : szOf c.P t = some v.cells.length) (hw : H.wr b off v.cells = some H1) :
    ∃ B d S Xs, E.μ b = some (B, d, S) ∧ VRs E v.cells Xs ∧ ∀ w1 : World, w1.heap[B]? = w.heap[B]? → (execOp a.eval o).run c.P w1 = .ok .skip (w1.setCells B (d + off) Xs) := by
  have h1 := ev_sound hT hG hv
  have h2 := ev_sound hT hG hx
  generalize hX : a.eval ax = X at h2
  cases h2
  rename_i B d S hμ
  have hc := cells_sound h1 (alls_flat (wr_ones hw))
  obtain ⟨q1, -, -⟩ := hr.wr hw hμ hc c.P
  refine ⟨B, d, S, _, hμ, hc, fun w1 hw1 => ?_⟩
  have hcl := hc.length
  simp only [Array.length_toList] at hcl
  have hn : szOf c.P t = some (a.eval xx).cells.size := by rw [hsz, hcl]
  have key : (Instr.storeAt t (.pointer (some ⟨B, d + off, none⟩)) (a.eval xx)).run c.P w1 = .ok () (w1.setCells B (d + off) (a.eval xx).cells.toList) := by
    simp [Instr.storeAt, Instr.sureAddr, storeVar, szOf_run hn, q1 w1 hw1]
  simp [execOp, ho, hX, key]

theorem wr_ro {H H' : HP} {b o : Nat} {xs : List AV} (h : H.wr b o xs = some H') : ∃ k, H.obs.get b = some (.cells k) ∧ k.ro = false := by
  unfold HP.wr HP.blk at h
  simp only [bnd_eq, tst_eq, Bool.and_eq_true, Bool.not_eq_true'] at h
  obtain ⟨k, ⟨ob, hob, hk⟩, h1, -⟩ := h
  cases ob with
  | mp _ => cases hk
  | cells k' => cases hk; exact ⟨_, hob, h1.1⟩

namespace Ctx
variable {X : Ctx}

/-- The two last stores. -/
structure LP (X : Ctx) (s s' : Nat) (o o' : Oper) (r r' : Rc) (t t' : TypeId) (ax xx ax' xx' : Operand) (v v' : AV) (b off b' off' : Nat) (k k' : Blk) (H1 : HP) : Prop where
  ho : X.ops[s]? = some o
  hr : X.rs[s]? = some r
  hw : r.w = true
  hk : kindOf o.op = .eff
  ho' : X.ops[s']? = some o'
  hr' : X.rs[s']? = some r'
  hw' : r'.w = true
  hk' : kindOf o'.op = .eff
  lt : s < s'
  effs : ∀ j, X.Is .eff j → j = s ∨ j = s' ∨ (j < s ∧ AS.mk (masks X.ops.toList []) s j = true ∧ AS.mk (masks X.ops.toList []) s' j = true)
  reads : ∀ j, X.Is .read j → AS.mk (masks X.ops.toList []) s' j = true
  allocs : ∀ j, X.Is .alloc j → AS.mk (masks X.ops.toList []) s' j = true
  edges : ∀ j oj, X.ops[j]? = some oj → ∀ e ∈ oj.after, Region.binds .any e = true → e.on = s' → AS.mk (masks X.ops.toList []) j s = true
  op : o.op = .store t ax xx
  evx : ev X.c r.T xx = some v
  eva : ev X.c r.T ax = some (.ptr b off)
  op' : o'.op = .store t' ax' xx'
  evx' : ev X.c r'.T xx' = some v'
  eva' : ev X.c r'.T ax' = some (.ptr b' off')
  bk : (X.Hs s).blk b = some k
  bk' : (X.Hs s).blk b' = some k'
  ne : k.cls ≠ k'.cls
  sz' : szOf X.c.P t' = some v'.cells.length
  wr' : (X.Hs s).wr b' off' v'.cells = some H1
  d : o.dst = none
  d' : o'.dst = none

theorem LP.nm {s s' : Nat} {o o' : Oper} {r r' : Rc} {t t' : TypeId} {ax xx ax' xx' : Operand} {v v' : AV} {b off b' off' : Nat} {k k' : Blk} {H1 : HP} (h : LP X s s' o o' r r' t t' ax xx ax' xx' v v' b off b' off' k k' H1) (hf : X.Fits)
    {L : Nat → Bool} (hL : X.Closed L) {j : Nat} {oj : Oper} (hj : X.ops[j]? = some oj) (he : ∀ e ∈ oj.after, Region.binds .any e = true → L e.on = true) (hs : L s = false) : ∀ e ∈ oj.after, Region.binds .any e = true → e.on ≠ s' := by
  intro e hm hb e1
  have h1 := h.edges j oj hj e hm hb e1
  have := mk_sound (textOk_back hf.text) hL hj he h1
  rw [hs] at this; cases this

/-- The later one is done, the earlier is not. -/
structure LD (X : Ctx) (L : Nat → Bool) (a : Act) (w : World) (s s' : Nat) (o' : Oper) (v' : AV) (b' off' : Nat) (p : Nat) (F : Env) (w0 : World) (B' d' S' : Nat) (Xs' : List Value) : Prop where
  di : X.DI (fun j => L j && !(j == s')) p F a w0
  hs : L s = false
  hs' : L s' = true
  pre' : ∀ e ∈ o'.after, Region.binds .any e = true → (L e.on && !(e.on == s')) = true
  mu : (F.cut (X.Hs s').nxt).μ b' = some (B', d', S')
  vr : VRs (F.cut (X.Hs s').nxt) v'.cells Xs'
  eq : w = w0.setCells B' (d' + off') Xs'

def Late (X : Ctx) (L : Nat → Bool) (a : Act) (w : World) : Prop :=
  ∃ s s' o o' r r' t t' ax xx ax' xx' v v' b off b' off' k k' H1, LP X s s' o o' r r' t t' ax xx ax' xx' v v' b off b' off' k k' H1 ∧ ∃ p F w0 B' d' S' Xs', LD X L a w s s' o' v' b' off' p F w0 B' d' S' Xs'

theorem LD.closed {L : Nat → Bool} {a : Act} {w : World} {s s' : Nat} {o' : Oper} {v' : AV} {b' off' p : Nat} {F : Env} {w0 : World} {B' d' S' : Nat} {Xs' : List Value} (h : LD X L a w s s' o' v' b' off' p F w0 B' d' S' Xs') (ho' : X.ops[s']? = some o') : X.Closed L := by
  intro j o hj hLj e he hb
  by_cases e1 : j = s'
  · subst e1
    rw [ho'] at hj; cases hj
    have := h.pre' e he hb
    simp only [Bool.and_eq_true] at this
    exact this.1
  · have := h.di.cl j o hj (by simp [hLj, e1]) e he hb
    simp only [Bool.and_eq_true] at this
    exact this.1

theorem DI.pureAt (hf : X.Fits) {L : Nat → Bool} {p : Nat} {F : Env} {a : Act} {w w1 : World} (h : X.DI L p F a w) {j : Nat} {o : Oper} {r : Rc} (ho : X.ops[j]? = some o) (hr : X.rs[j]? = some r) (hj : L j = false)
    (hpre : ∀ e ∈ o.after, Region.binds .any e = true → L e.on = true) (hw : r.w = true) (hk : kindOf o.op = .pure) {Q : Exit → Act → World → Prop} {K : Act → World → Prop} (hK : ∀ a', X.DI (fun k => k == j || L k) p F a' w → K a' w1) : o.wp X.c.P a w1 K Q := by
  have hjlt : j < X.ops.size := (Array.getElem?_eq_some_iff.1 ho).1
  have hkd := hf.kind ho hr hw
  rw [hk] at hkd
  simp only [byKind, AS.stay, bnd_eq, Option.some.injEq, Prod.mk.injEq] at hkd
  obtain ⟨v, hv, e1, e2⟩ := hkd
  obtain ⟨V, h1, h2⟩ := opPure_sound (h.tr hf ho hr hj hpre) (h.glj hf (Nat.le_of_lt hjlt)) hv w1
  unfold Oper.wp
  rw [h1]
  refine hK _ (h.stay hf ho hr hj hpre (not_is ho hr (.inr (by rw [hk]; simp))) (not_is ho hr (.inr (by rw [hk]; simp))) ?_)
  rw [← e2, ← e1]; exact h2

/-- The later one comes first. -/
theorem LP.first {s s' : Nat} {o o' : Oper} {r r' : Rc} {t t' : TypeId} {ax xx ax' xx' : Operand} {v v' : AV} {b off b' off' : Nat} {k k' : Blk} {H1 : HP} (h : LP X s s' o o' r r' t t' ax xx ax' xx' v v' b off b' off' k k' H1) (hf : X.Fits)
    {L : Nat → Bool} {p : Nat} {F : Env} {a : Act} {w : World} (hd : X.DI L p F a w) (hs : L s = false) (hs' : L s' = false) (hpre : ∀ e ∈ o'.after, Region.binds .any e = true → L e.on = true)
    {Q : Exit → Act → World → Prop} {K : Act → World → Prop} (hK : ∀ w', Late X (fun j => j == s' || L j) a w' → K a w') : o'.wp X.c.P a w K Q := by
  have hlt' : s' < X.ops.size := (Array.getElem?_eq_some_iff.1 h.ho').1
  have hslt := h.lt
  have hIs : X.Is .eff s := ⟨o, r, h.ho, h.hr, h.hw, h.hk⟩
  have hps : p ≤ s := by
    rcases Nat.lt_or_ge s p with hlt | hge
    · have := hd.st.done s hIs hlt; rw [hs] at this; cases this
    · exact hge
  -- the heap that is known ahead of the earlier one
  have hok : OK (F.cut (X.Hs s).nxt) (X.Hs s) X.N0 w := by
    refine hd.assemble hf s hps (by omega) (fun j hj _ _ => ?_) (fun j hj h1 h2 => ?_)
    · exact mk_sound (textOk_back hf.text) hd.cl h.ho' hpre (h.allocs j hj)
    · rcases h.effs j hj with rfl | rfl | ⟨-, -, h3⟩
      · omega
      · omega
      · have := mk_sound (textOk_back hf.text) hd.cl h.ho' hpre h3
        have := hd.st.todo j hj this
        omega
  have hle := Env.cut_mono F (hf.nxt (Nat.le_of_lt hslt) (Nat.le_of_lt hlt'))
  obtain ⟨B', d', S', Xs', m1, m2, m3⟩ := store_anyhow (hd.tr hf h.ho' h.hr' hs' hpre) (hd.glj hf (Nat.le_of_lt hlt')) (hok.hr.up hle) h.op' h.evx' h.eva' h.sz' h.wr'
  unfold Oper.wp
  rw [m3 w rfl]
  show K (a.put o'.dst undef) _
  rw [h.d']
  refine hK _ ⟨s, s', o, o', r, r', t, t', ax, xx, ax', xx', v, v', b, off, b', off', k, k', H1, h, p, F, w, B', d', S', Xs', ?_⟩
  have hL' : (fun j => (j == s' || L j) && !(j == s')) = L := by
    funext j
    by_cases e : j = s'
    · rw [e, hs']; simp
    · have e' : (j == s') = false := by simpa using e
      show ((j == s' || L j) && !(j == s')) = L j
      rw [e']; simp
  refine ⟨by rw [hL']; exact hd, by simp [hs]; omega, by simp, fun e he hb => ?_, m1, m2, rfl⟩
  have h1 := hpre e he hb
  have h2 := textOk_back hf.text s' o' h.ho' e he hb
  simp [h1]; omega

/-- Then the earlier one. -/
theorem LP.second {s s' : Nat} {o o' : Oper} {r r' : Rc} {t t' : TypeId} {ax xx ax' xx' : Operand} {v v' : AV} {b off b' off' : Nat} {k k' : Blk} {H1 : HP} (h : LP X s s' o o' r r' t t' ax xx ax' xx' v v' b off b' off' k k' H1) (hf : X.Fits)
    {L : Nat → Bool} {p : Nat} {F : Env} {a : Act} {w w0 : World} {B' d' S' : Nat} {Xs' : List Value} (hl : LD X L a w s s' o' v' b' off' p F w0 B' d' S' Xs') (hpre : ∀ e ∈ o.after, Region.binds .any e = true → L e.on = true)
    {Q : Exit → Act → World → Prop} {K : Act → World → Prop} (hK : ∀ p F w', X.DI (fun j => j == s || L j) p F a w' → K a w') : o.wp X.c.P a w K Q := by
  have hlt' : s' < X.ops.size := (Array.getElem?_eq_some_iff.1 h.ho').1
  have hslt := h.lt
  have hd := hl.di
  have hs : (L s && !(s == s')) = false := by simp [hl.hs]
  have hs' : (L s' && !(s' == s')) = false := by simp
  have hcl := hl.closed h.ho'
  have hnm := h.nm hf hcl h.ho hpre hl.hs
  have hpre2 : ∀ e ∈ o.after, Region.binds .any e = true → (L e.on && !(e.on == s')) = true := fun e he hb => by simp [hpre e he hb, hnm e he hb]
  have hfirst : ∀ j, X.Is .eff j → j < s → j < p := by
    intro j hj hjs
    rcases h.effs j hj with rfl | rfl | ⟨-, h3, -⟩
    · omega
    · omega
    · have := mk_sound (textOk_back hf.text) hd.cl h.ho hpre2 h3
      exact hd.st.todo j hj this
  obtain ⟨hps, hal, hok⟩ := hd.ahead hf h.ho h.hr hs hpre2 h.hw h.hk
  have hok := hok hfirst
  have hkd := hf.kind h.ho h.hr h.hw
  rw [h.hk] at hkd
  simp only [byKind, h.op, opEff, bnd_eq, h.evx, h.eva, Option.some.injEq] at hkd
  obtain ⟨_, rfl, _, rfl, hkd⟩ := hkd
  obtain ⟨hsz, hwr, hrv⟩ := storeA_wr hkd
  obtain ⟨B, d, S, Xs, m1, m2, m3⟩ := store_anyhow (hd.tr hf h.ho h.hr hs hpre2) (hd.glj hf (by omega)) hok.hr h.op h.evx h.eva hsz hwr
  -- two blocks
  have hbk : ∀ {b : Nat} {k : Blk}, (X.Hs s).blk b = some k → (X.Hs s).obs.get b = some (.cells k) := by
    intro b k hb
    unfold HP.blk at hb
    simp only [bnd_eq] at hb
    obtain ⟨ob, hob, hk⟩ := hb
    cases ob with
    | mp _ => cases hk
    | cells k' => cases hk; exact hob
  have hne : B ≠ B' := by
    intro e
    subst e
    have hbb : b ≠ b' := fun e => h.ne (by
      subst e
      have := h.bk.symm.trans h.bk'
      cases this; rfl)
    obtain ⟨k2, q1, q2⟩ := wr_ro hwr
    obtain ⟨B2, d2, S2, q3, q4⟩ := hok.hr.obj b _ q1
    rw [m1] at q3; cases q3
    obtain ⟨B3, d3, S3, q5, q6⟩ := hok.hr.obj b' _ (hbk h.bk')
    have q7 := (Env.cut_mono F (hf.nxt (Nat.le_of_lt hslt) (Nat.le_of_lt hlt'))).2 _ _ q5
    rw [hl.mu] at q7; cases q7
    obtain ⟨k3, k4, e1, e2, e3, -⟩ := hok.hr.sep b b' _ _ B d S d' S' hbb (hbk h.bk) (hbk h.bk') m1 q5 (q4.lo q2)
    cases e1; cases e2
    exact h.ne e3
  have hwB : w.heap[B]? = w0.heap[B]? := by rw [hl.eq]; exact heap_setCells_far B' Xs' _ w0 B hne
  unfold Oper.wp
  rw [m3 w hwB]
  show K (a.put o.dst undef) _
  rw [h.d]
  -- the order of the text
  obtain ⟨-, g2, g3⟩ := hok.wr hwr m1 m2 X.c.P
  obtain ⟨F1, hF1, hd1⟩ := hd.effCore hf h.ho h.hr hs hpre2 h.hw h.hk hfirst (V := undef) g2 g3 (by rw [hrv]; exact undef_any)
  rw [h.d] at hd1
  have hd1 : X.DI (fun j => j == s || (L j && !(j == s'))) (s + 1) F1 a (w0.setCells B (d + off) Xs) := hd1
  have hss : (s' == s || (L s' && !(s' == s'))) = false := by simp; omega
  have hpre3 : ∀ e ∈ o'.after, Region.binds .any e = true → (e.on == s || (L e.on && !(e.on == s'))) = true := fun e he hb => by rw [hl.pre' e he hb]; simp
  have hfirst3 : ∀ j, X.Is .eff j → j < s' → j < s + 1 := by
    intro j hj hjs
    rcases h.effs j hj with rfl | rfl | ⟨h1, -, -⟩ <;> omega
  obtain ⟨-, -, hok1⟩ := hd1.ahead hf h.ho' h.hr' hss hpre3 h.hw' h.hk'
  have hok1 := hok1 hfirst3
  have hkd' := hf.kind h.ho' h.hr' h.hw'
  rw [h.hk'] at hkd'
  simp only [byKind, h.op', opEff, bnd_eq, h.evx', h.eva', Option.some.injEq] at hkd'
  obtain ⟨_, rfl, _, rfl, hkd'⟩ := hkd'
  obtain ⟨-, hwr', hrv'⟩ := storeA_wr hkd'
  have hle1 := Env.cut_of_le hF1 (X.Hs s').nxt
  obtain ⟨-, g4, g5⟩ := hok1.wr hwr' (hle1.2 _ _ hl.mu) (hl.vr.mono hle1) X.c.P
  obtain ⟨F2, -, hd2⟩ := hd1.effCore hf h.ho' h.hr' hss hpre3 h.hw' h.hk' hfirst3 (V := undef) g4 g5 (by rw [hrv']; exact undef_any)
  rw [h.d'] at hd2
  have hL2 : (fun j => j == s' || (j == s || (L j && !(j == s')))) = fun j => j == s || L j := by
    funext j
    by_cases e : j = s'
    · rw [e, hl.hs']; simp
    · have e' : (j == s') = false := by simpa using e
      show (j == s' || (j == s || (L j && !(j == s')))) = (j == s || L j)
      rw [e']; simp
  rw [hL2, setCells_comm hne, ← hl.eq] at hd2
  exact hK _ F2 _ hd2
end Ctx
end Go.AS
