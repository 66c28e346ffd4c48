/-
  The invariant of a drawn region over the set of what is done.
-/
import Derived.Test.YtffklpenfaocbaaGreatDoorAsV
set_option linter.unusedVariables false
set_option linter.unusedSimpArgs false
namespace Go.AS
open Go.RowKit

/-- The setting: a region's run in the order of the text. -/
structure Ctx where
  c : Cx
  N : Nat
  N0 : Nat
  call : CallF
  ops : Array Oper
  rs : List Rc
  Ts : Nat → TM
  Hs : Nat → HP
  E0 : Env
  w0 : World

namespace Ctx
variable (X : Ctx)

/-- The j-th operation is wanted, and of this kind. -/
def Is (k : Kd) (j : Nat) : Prop := ∃ o r, X.ops[j]? = some o ∧ X.rs[j]? = some r ∧ r.w = true ∧ kindOf o.op = k

/-- Done is a set that holds with each operation what stands ahead of it. -/
def Closed (L : Nat → Bool) : Prop := ∀ (j : Nat) o, X.ops[j]? = some o → L j = true → ∀ e ∈ o.after, Region.binds .any e = true → L e.on = true

/-- The effects ahead of p are done, those behind are not; p is 0 or stands behind an effect. -/
structure Stage (L : Nat → Bool) (p : Nat) : Prop where
  le : p ≤ X.ops.size
  done : ∀ j, X.Is .eff j → j < p → L j = true
  todo : ∀ j, X.Is .eff j → L j = true → j < p
  made : ∀ j, X.Is .alloc j → j < p → L j = true
  top : p = 0 ∨ ∃ k, p = k + 1 ∧ X.Is .eff k

/-- A done allocation behind p. -/
def Extra (L : Nat → Bool) (p j : Nat) : Prop := X.Is .alloc j ∧ L j = true ∧ p ≤ j

structure DI (L : Nat → Bool) (p : Nat) (F : Env) (a : Act) (w : World) : Prop where
  cl : X.Closed L
  st : X.Stage L p
  ok : OK (F.cut (X.Hs p).nxt) (X.Hs p) X.N0 w
  ex : ∀ j, X.Extra L p j → ∃ B S ob, F.μ (X.Hs j).nxt = some (B, 0, S) ∧ w.heap[B]? = some ob ∧ Made (F.cut (X.Hs j).nxt) (X.Hs j) (X.Hs (j + 1)) ob S ∧ X.N0 ≤ B ∧ ∀ i x, i ≠ (X.Hs j).nxt → F.μ i = some x → x.1 ≠ B
  on : ∀ i x, F.μ i = some x → i < (X.Hs p).nxt ∨ ∃ j, X.Extra L p j ∧ i = (X.Hs j).nxt
  bd : ∀ i x, F.μ i = some x → x.1 < w.heap.size
  tm : ∀ (i : Nat) o r d, X.ops[i]? = some o → X.rs[i]? = some r → L i = true → o.dst = some d → d < X.N → ∃ V, a.tmps[d]? = some V ∧ VR (F.cut (X.Hs (i + 1)).nxt) r.v V
  t0 : ∀ t x, (∀ (i : Nat) o, X.ops[i]? = some o → L i = true → o.dst ≠ some t) → X.Ts 0 t = some x → ∃ V, a.tmps[t]? = some V ∧ VR (F.cut (X.Hs 0).nxt) x V
  sz : a.tmps.size = X.N
  df : a.defers = []
  go : Goes X.E0 F X.N0 X.w0 w
  gl : GL X.c (F.cut (X.Hs 0).nxt)

/-- What is asked of the setting. -/
structure Fits : Prop where
  run : Run X.c X.N X.call X.ops X.ops.toList X.rs X.Ts X.Hs
  text : textOk X.ops = true
  mono : ∀ j, j < X.ops.size → (X.Hs j).nxt ≤ (X.Hs (j + 1)).nxt

variable {X}

theorem Fits.nxt (h : X.Fits) {i j : Nat} (hij : i ≤ j) (hj : j ≤ X.ops.size) : (X.Hs i).nxt ≤ (X.Hs j).nxt := by
  induction j with
  | zero => have : i = 0 := by omega
            subst this; exact Nat.le_refl _
  | succ j ih =>
    rcases Nat.lt_or_ge i (j + 1) with hlt | hge
    · exact Nat.le_trans (ih (by omega) (by omega)) (h.mono j (by omega))
    · have : i = j + 1 := by omega
      subst this; exact Nat.le_refl _

theorem Fits.part (h : X.Fits) {j : Nat} {o : Oper} {r : Rc} (ho : X.ops[j]? = some o) (hr : X.rs[j]? = some r) : Part X.c X.N X.call X.ops o (X.Ts j) r (X.Ts (j + 1)) ∧ r.H = X.Hs j ∧ r.H' = X.Hs (j + 1) :=
  h.run.part j o r (by simpa using ho) hr

/-- What a wanted operation of a kind is. -/
theorem Fits.kind (h : X.Fits) {j : Nat} {o : Oper} {r : Rc} (ho : X.ops[j]? = some o) (hr : X.rs[j]? = some r) (hw : r.w = true) : byKind X.c X.call r.T (X.Hs j) o.op (kindOf o.op) = some (r.v, X.Hs (j + 1)) := by
  obtain ⟨hp, e1, e2⟩ := h.part ho hr
  have := hp.yes hw
  rw [opAny_eq, e1, e2] at this
  exact this

/-- Two operations that stand in no bound order. -/
theorem Fits.apart (h : X.Fits) {L : Nat → Bool} (hL : X.Closed L) {i j : Nat} {oi oj : Oper} (hi : X.ops[i]? = some oi) (hj : X.ops[j]? = some oj) (hlt : i < j) :
    (∀ d, oi.dst = some d → oj.dst ≠ some d) ∧ (((∀ e ∈ oj.after, Region.binds .any e = true → L e.on = true) → L i = true) ∨
      ((∀ d, oj.dst = some d → d ∉ oi.looksAt X.ops) ∧ (∀ d, oi.dst = some d → d ∉ oj.looksAt X.ops) ∧ kindsOk (kindOf oi.op) (kindOf oj.op) = true)) := by
  have hp := textOk_pair h.text hi hj hlt
  unfold pairOk at hp
  simp only [Bool.and_eq_true, Bool.or_eq_true, Bool.not_eq_true'] at hp
  obtain ⟨h1, h2⟩ := hp
  refine ⟨fun d hd hd' => ?_, ?_⟩
  · rw [sameDst_of hd hd'] at h1; cases h1
  · rcases h2 with h2 | ⟨⟨h2, h3⟩, h4⟩
    · exact .inl fun he => mk_sound (textOk_back h.text) hL hj he h2
    · refine .inr ⟨fun d hd hm => ?_, fun d hd hm => ?_, h4⟩
      · rw [looks_of hd hm] at h2; cases h2
      · rw [looks_of hd hm] at h3; cases h3

/-- What an operation looks at is there when it comes up. -/
theorem DI.tr (hf : X.Fits) {L : Nat → Bool} {p : Nat} {F : Env} {a : Act} {w : World} (h : X.DI L p F a w) {j : Nat} {o : Oper} {r : Rc} (ho : X.ops[j]? = some o) (hr : X.rs[j]? = some r) (hj : L j = false)
    (hpre : ∀ e ∈ o.after, Region.binds .any e = true → L e.on = true) : TR (F.cut (X.Hs j).nxt) r.T a := by
  obtain ⟨hp, -, -⟩ := hf.part ho hr
  have hjlt : j < X.ops.size := (Array.getElem?_eq_some_iff.1 ho).1
  intro t x hx
  rw [hp.tm] at hx
  obtain ⟨hlook, hx⟩ := mask_eq hx
  rcases hf.run.tmp j (by simpa using Nat.le_of_lt hjlt) t x hx with ⟨i, oi, ri, hij, hoi, hri, hd, htN, hv⟩ | ⟨hno, h0⟩
  · have hoi' : X.ops[i]? = some oi := by simpa using hoi
    have hLi : L i = true := by
      rcases (hf.apart h.cl hoi' ho hij).2 with h1 | ⟨-, h1, -⟩
      · exact h1 hpre
      · exact absurd hlook (h1 t hd)
    obtain ⟨V, hV, hvv⟩ := h.tm i oi ri t hoi' hri hLi hd htN
    refine ⟨V, hV, ?_⟩
    rw [← hv]
    exact hvv.mono (Env.cut_mono F (hf.nxt (by omega) (by omega)))
  · obtain ⟨V, hV, hvv⟩ := h.t0 t x (fun i oi hoi hLi hd => by
      rcases Nat.lt_trichotomy i j with hlt | heq | hgt
      · exact hno i oi hlt (by simpa using hoi) hd
      · subst heq; rw [hj] at hLi; cases hLi
      · rcases (hf.apart h.cl ho hoi hgt).2 with h1 | ⟨h1, -, -⟩
        · have := h1 (h.cl i oi hoi hLi)
          rw [hj] at this; cases this
        · exact absurd hlook (h1 t hd)) h0
    exact ⟨V, hV, hvv.mono (Env.cut_mono F (hf.nxt (Nat.zero_le _) (by omega)))⟩

theorem DI.glj (hf : X.Fits) {L : Nat → Bool} {p : Nat} {F : Env} {a : Act} {w : World} (h : X.DI L p F a w) {j : Nat} (hj : j ≤ X.ops.size) : GL X.c (F.cut (X.Hs j).nxt) :=
  h.gl.mono (Env.cut_mono F (hf.nxt (Nat.zero_le _) hj))

/-- One more is done, and its value lies in its temporary; the heap's part is the caller's. -/
theorem closed_add {L : Nat → Bool} (h : X.Closed L) {j : Nat} {o : Oper} (ho : X.ops[j]? = some o) (hpre : ∀ e ∈ o.after, Region.binds .any e = true → L e.on = true) : X.Closed (fun k => k == j || L k) := by
  intro k ok hk hLk e he hb
  by_cases e1 : k = j
  · subst e1
    rw [ho] at hk; cases hk
    simp [hpre e he hb]
  · have : L k = true := by simpa [e1] using hLk
    simp [h k ok hk this e he hb]

theorem DI.put (hf : X.Fits) {L : Nat → Bool} {p : Nat} {F F' : Env} {a : Act} {w : World} (h : X.DI L p F a w) (hF : F.le F') {j : Nat} {o : Oper} {r : Rc} {V : Value} (ho : X.ops[j]? = some o) (hr : X.rs[j]? = some r) (hj : L j = false) (hV : VR (F'.cut (X.Hs (j + 1)).nxt) r.v V) :
    (∀ (i : Nat) o' r' d, X.ops[i]? = some o' → X.rs[i]? = some r' → (i == j || L i) = true → o'.dst = some d → d < X.N → ∃ V', (a.put o.dst V).tmps[d]? = some V' ∧ VR (F'.cut (X.Hs (i + 1)).nxt) r'.v V') ∧
    (∀ t x, (∀ (i : Nat) o', X.ops[i]? = some o' → (i == j || L i) = true → o'.dst ≠ some t) → X.Ts 0 t = some x → ∃ V', (a.put o.dst V).tmps[t]? = some V' ∧ VR (F'.cut (X.Hs 0).nxt) x V') := by
  have far : ∀ t, o.dst ≠ some t → (a.put o.dst V).tmps[t]? = a.tmps[t]? := by
    intro t ht
    cases hd : o.dst with
    | none => rfl
    | some d =>
      show (a.tmps.setIfInBounds d V)[t]? = _
      rw [Array.getElem?_setIfInBounds_ne (fun e => ht (by rw [hd, e]))]
  constructor
  · intro i o' r' d ho' hr' hL hd hdN
    by_cases e : i = j
    · subst e
      rw [ho] at ho'; cases ho'
      rw [hr] at hr'; cases hr'
      refine ⟨V, ?_, hV⟩
      rw [hd]
      show (a.tmps.setIfInBounds d V)[d]? = _
      simp [show d < a.tmps.size by rw [h.sz]; exact hdN]
    · have hLi : L i = true := by simpa [e] using hL
      have hne : o.dst ≠ some d := by
        rcases Nat.lt_or_ge i j with hlt | hge
        · exact (hf.apart h.cl ho' ho hlt).1 d hd
        · exact fun hod => (hf.apart h.cl ho ho' (by omega)).1 d hod hd
      obtain ⟨V', h1, h2⟩ := h.tm i o' r' d ho' hr' hLi hd hdN
      exact ⟨V', (far d hne).trans h1, h2.mono (Env.cut_of_le hF _)⟩
  · intro t x hno h0
    have hne : o.dst ≠ some t := hno j o ho (by simp)
    obtain ⟨V', h1, h2⟩ := h.t0 t x (fun i o' ho' hL => hno i o' ho' (by simp [hL])) h0
    exact ⟨V', (far t hne).trans h1, h2.mono (Env.cut_of_le hF _)⟩

theorem add_iff {L : Nat → Bool} {j i : Nat} : ((i == j || L i) = true) ↔ (i = j ∨ L i = true) := by simp

/-- An operation that neither makes a block nor acts: the heap's part stays. -/
theorem DI.stay (hf : X.Fits) {L : Nat → Bool} {p : Nat} {F : Env} {a : Act} {w : World} (h : X.DI L p F a w) {j : Nat} {o : Oper} {r : Rc} {V : Value} (ho : X.ops[j]? = some o) (hr : X.rs[j]? = some r) (hj : L j = false)
    (hpre : ∀ e ∈ o.after, Region.binds .any e = true → L e.on = true) (hna : ¬ X.Is .alloc j) (hne : ¬ X.Is .eff j) (hV : VR (F.cut (X.Hs (j + 1)).nxt) r.v V) : X.DI (fun k => k == j || L k) p F (a.put o.dst V) w := by
  obtain ⟨t1, t2⟩ := h.put hf (.refl F) ho hr hj hV
  have hex : ∀ k, X.Extra (fun k => k == j || L k) p k ↔ X.Extra L p k := by
    intro k
    constructor
    · rintro ⟨h1, h2, h3⟩
      rcases add_iff.1 h2 with rfl | h2
      · exact absurd h1 hna
      · exact ⟨h1, h2, h3⟩
    · rintro ⟨h1, h2, h3⟩
      exact ⟨h1, add_iff.2 (.inr h2), h3⟩
  refine ⟨closed_add h.cl ho hpre, ⟨h.st.le, fun k hk hp => add_iff.2 (.inr (h.st.done k hk hp)), fun k hk hL => ?_, fun k hk hp => add_iff.2 (.inr (h.st.made k hk hp)), h.st.top⟩, h.ok, fun k hk => h.ex k ((hex k).1 hk), fun i x hx => ?_, h.bd, t1, t2,
    (put_size _ _).trans h.sz, (put_defers _ _).trans h.df, h.go, h.gl⟩
  · rcases add_iff.1 hL with rfl | hL
    · exact absurd hk hne
    · exact h.st.todo k hk hL
  · rcases h.on i x hx with h1 | ⟨k, h1, h2⟩
    · exact .inl h1
    · exact .inr ⟨k, (hex k).2 h1, h2⟩

theorem not_is {k : Kd} {j : Nat} {o : Oper} {r : Rc} (ho : X.ops[j]? = some o) (hr : X.rs[j]? = some r) (h : r.w = false ∨ kindOf o.op ≠ k) : ¬ X.Is k j := by
  rintro ⟨o', r', h1, h2, h3, h4⟩
  rw [ho] at h1; cases h1
  rw [hr] at h2; cases h2
  rcases h with h | h
  · rw [h] at h3; cases h3
  · exact h h4

/-- The part of a step that every operation shares: is it wanted? -/
theorem wpOp_of {P : Program} {ops : Array Oper} {Q : Exit → Act → World → Prop} {j : Nat} {o : Oper} {K : Act → World → Prop} {a : Act} {w : World} (ho : ops[j]? = some o) {b : Bool} (hb : Region.wanted o (yielded ops a.tmps) = b)
    (h1 : b = true → o.wp P a w K Q) (h2 : b = false → K (a.put o.dst undef) w) : wpOp P ops Q j K a w := by
  unfold wpOp
  rw [ho]
  simp only
  cases b with
  | true => rw [if_pos hb]; exact .inl (h1 rfl)
  | false => rw [if_neg (by simp [hb])]; exact h2 rfl

theorem undef_any {E : Env} : VR E AV.undef undef := .tup _ _ .nil

/-- Unwanted and pure operations. -/
theorem DI.pure (hf : X.Fits) {L : Nat → Bool} {p : Nat} {F : Env} {a : Act} {w : World} (h : X.DI L p F a w) {j : Nat} {o : Oper} {r : Rc} (ho : X.ops[j]? = some o) (hr : X.rs[j]? = some r) (hj : L j = false)
    (hpre : ∀ e ∈ o.after, Region.binds .any e = true → L e.on = true) (hw : r.w = true) (hk : kindOf o.op = .pure) {Q : Exit → Act → World → Prop} {K : Act → World → Prop} (hK : ∀ a', X.DI (fun k => k == j || L k) p F a' w → K a' w) : o.wp X.c.P a w K Q := by
  have hjlt : j < X.ops.size := (Array.getElem?_eq_some_iff.1 ho).1
  have hkd := hf.kind ho hr hw
  rw [hk] at hkd
  simp only [byKind, AS.stay, bnd_eq, Option.some.injEq, Prod.mk.injEq] at hkd
  obtain ⟨v, hv, e1, e2⟩ := hkd
  obtain ⟨V, h1, h2⟩ := opPure_sound (h.tr hf ho hr hj hpre) (h.glj hf (Nat.le_of_lt hjlt)) hv w
  unfold Oper.wp
  rw [h1]
  refine hK _ (h.stay hf ho hr hj hpre (not_is ho hr (.inr (by rw [hk]; simp))) (not_is ho hr (.inr (by rw [hk]; simp))) ?_)
  rw [← e2, ← e1]; exact h2
end Ctx
end Go.AS
