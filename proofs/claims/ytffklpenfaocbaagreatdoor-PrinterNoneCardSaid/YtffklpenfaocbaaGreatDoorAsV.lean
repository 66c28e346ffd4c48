/-
  The run of a drawn region in the order of the text: what is known of each operation.
-/
import Derived.Test.YtffklpenfaocbaaGreatDoorAsU
set_option linter.unusedVariables false
set_option linter.unusedSimpArgs false
namespace Go.AS
open Go.RowKit

/-- What is known of one operation of the run. -/
structure Part (c : Cx) (N : Nat) (call : CallF) (ops : Array Oper) (o : Oper) (T : TM) (r : Rc) (T' : TM) : Prop where
  tm : r.T = TM.mask T (o.looksAt ops)
  wn : wanted ops.toList r.T o.guard = some r.w
  yes : r.w = true → opAny c call r.T r.H o.op = some (r.v, r.H')
  no : r.w = false → r.v = .undef ∧ r.H' = r.H
  pt : putT N T o.dst r.v = some T'

/-- The run: states ahead of each operation. -/
structure Run (c : Cx) (N : Nat) (call : CallF) (ops : Array Oper) (l : List Oper) (rs : List Rc) (Ts : Nat → TM) (Hs : Nat → HP) : Prop where
  len : rs.length = l.length
  part : ∀ (j : Nat) o r, l[j]? = some o → rs[j]? = some r → Part c N call ops o (Ts j) r (Ts (j + 1)) ∧ r.H = Hs j ∧ r.H' = Hs (j + 1)

theorem evDraw_run {c : Cx} {N : Nat} {call : CallF} {ops : Array Oper} : ∀ {l : List Oper} {T : TM} {H : HP} {d : DR}, evDraw c N call ops l T H = some d →
    ∃ Ts Hs, Ts 0 = T ∧ Hs 0 = H ∧ Ts l.length = d.T ∧ Hs l.length = d.H ∧ Run c N call ops l d.rs Ts Hs
  | [], T, H, d, h => by
    have h' : some (⟨[], T, H⟩ : DR) = some d := h
    cases h'
    exact ⟨fun _ => T, fun _ => H, rfl, rfl, rfl, rfl, rfl, fun j o r hj => by simp at hj⟩
  | o :: l, T, H, d, h => by
    have h' : (bnd (wanted ops.toList (TM.mask T (o.looksAt ops)) o.guard) fun w => ite' w
      (bnd (opAny c call (TM.mask T (o.looksAt ops)) H o.op) fun r => bnd (putT N T o.dst r.1) fun T' => bnd (evDraw c N call ops l T' r.2) fun d => some (⟨⟨TM.mask T (o.looksAt ops), H, true, r.1, r.2⟩ :: d.rs, d.T, d.H⟩ : DR))
      (bnd (putT N T o.dst .undef) fun T' => bnd (evDraw c N call ops l T' H) fun d => some (⟨⟨TM.mask T (o.looksAt ops), H, false, .undef, H⟩ :: d.rs, d.T, d.H⟩ : DR))) = some d := h
    simp only [bnd_eq] at h'
    obtain ⟨b, hb, h'⟩ := h'
    have key : ∃ (r : Rc) (T1 : TM) (d1 : DR), Part c N call ops o T r T1 ∧ r.H = H ∧ evDraw c N call ops l T1 r.H' = some d1 ∧ d = ⟨r :: d1.rs, d1.T, d1.H⟩ := by
      cases b with
      | true =>
        simp only [ite'_true, bnd_eq, Option.some.injEq] at h'
        obtain ⟨⟨v, H1⟩, hop, T1, hp, d1, hd, rfl⟩ := h'
        exact ⟨⟨TM.mask T (o.looksAt ops), H, true, v, H1⟩, T1, d1, ⟨rfl, hb, fun _ => hop, fun e => (by cases e), hp⟩, rfl, hd, rfl⟩
      | false =>
        simp only [ite'_false, bnd_eq, Option.some.injEq] at h'
        obtain ⟨T1, hp, d1, hd, rfl⟩ := h'
        exact ⟨⟨TM.mask T (o.looksAt ops), H, false, .undef, H⟩, T1, d1, ⟨rfl, hb, fun e => (by cases e), fun _ => ⟨rfl, rfl⟩, hp⟩, rfl, hd, rfl⟩
    obtain ⟨r, T1, d1, hpart, hrH, hd, rfl⟩ := key
    obtain ⟨Ts, Hs, e1, e2, e3, e4, hrun⟩ := evDraw_run hd
    refine ⟨fun j => match j with | 0 => T | j + 1 => Ts j, fun j => match j with | 0 => H | j + 1 => Hs j, rfl, rfl, e3, e4, by simp [hrun.len], fun j o' r' hj hr => ?_⟩
    cases j with
    | zero =>
      simp only [List.getElem?_cons_zero, Option.some.injEq] at hj hr
      subst hj; subst hr
      refine ⟨?_, hrH, e2.symm⟩
      show Part c N call ops o T r (Ts 0)
      rw [e1]; exact hpart
    | succ j =>
      exact hrun.part j o' r' (by simpa using hj) (by simpa using hr)

theorem items_get : ∀ (l : List Oper) (rs : List Rc) (k i : Nat) (o : Oper) (r : Rc), l[i]? = some o → rs[i]? = some r → (items l rs k)[i]? = some ⟨k + i, o, r⟩
  | [], _, _, i, o, r, h, _ => by simp at h
  | _ :: _, [], _, i, o, r, _, h => by simp at h
  | o' :: l, r' :: rs, k, 0, o, r, h1, h2 => by
    simp only [List.getElem?_cons_zero, Option.some.injEq] at h1 h2
    subst h1; subst h2
    simp [items]
  | o' :: l, r' :: rs, k, i + 1, o, r, h1, h2 => by
    have := items_get l rs (k + 1) i o r (by simpa using h1) (by simpa using h2)
    simp only [items, List.getElem?_cons_succ]
    rw [show Nat.succ k = k + 1 from rfl, this]
    congr 2
    omega
theorem items_mem : ∀ (l : List Oper) (rs : List Rc) (k : Nat) (x : It), x ∈ items l rs k → ∃ i, x.i = k + i ∧ l[i]? = some x.o ∧ rs[i]? = some x.r
  | [], _, _, x, h => by simp [items] at h
  | _ :: _, [], _, x, h => by simp [items] at h
  | o :: l, r :: rs, k, x, h => by
    simp only [items, List.mem_cons] at h
    rcases h with rfl | h
    · exact ⟨0, rfl, rfl, rfl⟩
    · obtain ⟨i, h1, h2, h3⟩ := items_mem l rs (k + 1) x h
      exact ⟨i + 1, by omega, by simpa using h2, by simpa using h3⟩

/-- What a mask keeps. -/
theorem mask_eq {T : TM} {l : List Nat} {j : Nat} {x : AV} (h : TM.mask T l j = some x) : j ∈ l ∧ T j = some x := by
  unfold TM.mask at h
  rw [ite'_if] at h
  split at h
  · rename_i hm
    rw [List.any_eq_true] at hm
    obtain ⟨k, hk, e⟩ := hm
    have := Nat.eq_of_beq_eq_true e
    subst this
    exact ⟨hk, h⟩
  · cases h

theorem putT_eq {N : Nat} {T T' : TM} {dst : Option Tmp} {v x : AV} {t : Nat} (h : putT N T dst v = some T') (hx : T' t = some x) : (dst = some t ∧ t < N ∧ x = v) ∨ (dst ≠ some t ∧ T t = some x) := by
  cases dst with
  | none =>
    have h' : some T = some T' := h
    cases h'
    exact .inr ⟨by simp, hx⟩
  | some d =>
    have h' : tst (Nat.blt d N) (some (TM.put T d v)) = some T' := h
    simp only [tst_eq, Option.some.injEq] at h'
    obtain ⟨hd, rfl⟩ := h'
    rcases put_eq hx with ⟨rfl, rfl⟩ | ⟨n, h2⟩
    · exact .inl ⟨rfl, blt_eq hd, rfl⟩
    · exact .inr ⟨fun e => n (Option.some.inj e).symm, h2⟩

/-- What a temporary holds ahead of the j-th operation: what the last that wrote it yields, or what it held. -/
theorem Run.tmp {c : Cx} {N : Nat} {call : CallF} {ops : Array Oper} {l : List Oper} {rs : List Rc} {Ts : Nat → TM} {Hs : Nat → HP} (h : Run c N call ops l rs Ts Hs) : ∀ (j : Nat), j ≤ l.length → ∀ t x, Ts j t = some x →
    (∃ (i : Nat) (o : Oper) (r : Rc), i < j ∧ l[i]? = some o ∧ rs[i]? = some r ∧ o.dst = some t ∧ t < N ∧ r.v = x) ∨ ((∀ (i : Nat) o, i < j → l[i]? = some o → o.dst ≠ some t) ∧ Ts 0 t = some x)
  | 0, _, t, x, hx => .inr ⟨fun i o hi => absurd hi (by omega), hx⟩
  | j + 1, hj, t, x, hx => by
    have hlt : j < l.length := by omega
    have ho := List.getElem?_eq_getElem hlt
    have hr : rs[j]? = some (rs[j]'(by rw [h.len]; exact hlt)) := List.getElem?_eq_getElem (by rw [h.len]; exact hlt)
    obtain ⟨hp, -, -⟩ := h.part j _ _ ho hr
    rcases putT_eq hp.pt hx with ⟨e1, e2, e3⟩ | ⟨e1, e2⟩
    · exact .inl ⟨j, _, _, Nat.lt_succ_self j, ho, hr, e1, e2, e3.symm⟩
    · rcases Run.tmp h j (by omega) t x e2 with ⟨i, o, r, h1, h2⟩ | ⟨h1, h2⟩
      · exact .inl ⟨i, o, r, by omega, h2⟩
      · refine .inr ⟨fun i o hi hio => ?_, h2⟩
        rcases Nat.lt_or_ge i j with hlt2 | hge
        · exact h1 i o hlt2 hio
        · have : i = j := by omega
          subst this
          rw [ho] at hio; cases hio
          exact e1

/-! ### the text's checks -/
theorem looks_of {ops : Array Oper} {o x : Oper} {d : Tmp} (hd : x.dst = some d) (hm : d ∈ o.looksAt ops) : looks ops o x = true := by
  unfold looks
  rw [hd]
  show (o.looksAt ops).any (Nat.beq d) = true
  rw [List.any_eq_true]
  exact ⟨d, hm, Nat.beq_refl d⟩

theorem sameDst_of {x y : Oper} {d : Tmp} (hx : x.dst = some d) (hy : y.dst = some d) : sameDst x y = true := by
  unfold sameDst
  rw [hx, hy]
  exact Nat.beq_refl d

theorem pairsOk_get {ops : Array Oper} {ms : List Nat} : ∀ {l : List Oper} {k : Nat}, pairsOk ops ms l k = true → ∀ (j : Nat) oj, l[j]? = some oj → ∀ (i : Nat) oi, ops[i]? = some oi → i < k + j → pairOk ops ms oi i oj (k + j) = true
  | [], k, _, j, oj, hj => by simp at hj
  | o :: l, k, h, j, oj, hj => by
    intro i oi hi hlt
    simp only [pairsOk, Bool.and_eq_true, List.all_eq_true] at h
    cases j with
    | zero =>
      simp only [List.getElem?_cons_zero, Option.some.injEq] at hj
      subst hj
      have hmem : (oi, i) ∈ ops.toList.zipIdx := by
        rw [List.mem_iff_getElem?]
        exact ⟨i, by rw [List.getElem?_zipIdx]; simp [hi]⟩
      have := h.1 _ hmem
      simp only [Bool.or_eq_true, Bool.not_eq_true'] at this
      rcases this with h1 | h1
      · have h2 : Nat.blt i k = true := by
          show Nat.ble (Nat.succ i) k = true
          rw [Nat.ble_eq]; omega
        rw [h2] at h1; cases h1
      · exact h1
    | succ j =>
      have := pairsOk_get h.2 j oj (by simpa using hj) i oi hi (by omega)
      rwa [show k + 1 + j = k + (j + 1) by omega] at this

theorem textOk_pair {ops : Array Oper} (h : textOk ops = true) {i j : Nat} {oi oj : Oper} (hi : ops[i]? = some oi) (hj : ops[j]? = some oj) (hlt : i < j) : pairOk ops (masks ops.toList []) oi i oj j = true := by
  unfold textOk at h
  simp only [Bool.and_eq_true] at h
  have := pairsOk_get h.1 j oj (by simpa using hj) i oi hi (by omega)
  simpa using this
theorem textOk_back {ops : Array Oper} (h : textOk ops = true) : ∀ (i : Nat) o, ops[i]? = some o → ∀ e ∈ o.after, Region.binds .any e = true → e.on < i := by
  intro i o hi e he hb
  unfold textOk at h
  simp only [Bool.and_eq_true, List.all_eq_true] at h
  have hmem : (o, i) ∈ ops.toList.zipIdx := by
    rw [List.mem_iff_getElem?]
    exact ⟨i, by rw [List.getElem?_zipIdx]; simp [hi]⟩
  have := h.2 _ hmem e (by simpa using he)
  rw [hb] at this
  exact blt_eq (by simpa using this)
end Go.AS
