/-
  For the regions that draw their order: what lies below a number; blocks that are taken in later; what stands ahead of what.
-/
import Derived.Test.YtffklpenfaocbaaGreatDoorAsT
set_option linter.unusedVariables false
set_option linter.unusedSimpArgs false
namespace Go.AS
open Go.RowKit

def Env.cut (F : Env) (n : Nat) : Env := { μ := fun i => if i < n then F.μ i else none, ρ := F.ρ }
theorem Env.cut_lt (F : Env) {n i : Nat} (h : i < n) : (F.cut n).μ i = F.μ i := by simp [Env.cut, h]
theorem Env.cut_ge (F : Env) {n i : Nat} (h : n ≤ i) : (F.cut n).μ i = none := by simp [Env.cut]; omega
theorem Env.cut_some {F : Env} {n i : Nat} {x : Nat × Nat × Nat} (h : (F.cut n).μ i = some x) : i < n ∧ F.μ i = some x := by
  by_cases hi : i < n
  · rw [Env.cut_lt F hi] at h; exact ⟨hi, h⟩
  · rw [Env.cut_ge F (by omega)] at h; cases h
theorem Env.cut_le (F : Env) (n : Nat) : (F.cut n).le F := ⟨rfl, fun i x h => (Env.cut_some h).2⟩
theorem Env.cut_mono (F : Env) {n m : Nat} (h : n ≤ m) : (F.cut n).le (F.cut m) :=
  ⟨rfl, fun i x hx => by obtain ⟨h1, h2⟩ := Env.cut_some hx; rw [Env.cut_lt F (by omega)]; exact h2⟩
theorem Env.cut_of_le {F F' : Env} (h : F.le F') (n : Nat) : (F.cut n).le (F'.cut n) :=
  ⟨h.1, fun i x hx => by obtain ⟨h1, h2⟩ := Env.cut_some hx; rw [Env.cut_lt F' h1]; exact h.2 i x h2⟩

theorem VR.cut {F : Env} {n : Nat} {x : AV} {X : Value} (h0 : VR F x X) : Go.AS.below n x = true → VR (F.cut n) x X :=
  VR.rec (E := F) (motive_1 := fun x X _ => Go.AS.below n x = true → VR (F.cut n) x X) (motive_2 := fun xs Xs _ => Go.AS.belows n xs = true → VRs (F.cut n) xs Xs)
    (fun k m _ => .int k m) (fun b _ => .bool b) (fun s b h _ => .str s b h) (fun _ => .nilp) (fun _ => .nils) (fun _ => .nilm) (fun _ => .nilf) (fun _ => .nili)
    (fun b o B d S h hb => .ptr b o B d S (by rw [Env.cut_lt F (blt_eq hb)]; exact h))
    (fun b o m c sz ex B d S D c' h hc hx hD hS hb => .slc b o m c sz ex B d S D c' (by rw [Env.cut_lt F (blt_eq hb)]; exact h) hc hx hD hS)
    (fun cs Cs _ ih hb => .agg cs Cs (ih hb)) (fun cs Cs _ ih hb => .tup cs Cs (ih hb)) (fun t v V _ ih hb => .ifc t v V (ih hb))
    (fun f a b A B _ _ iha ihb hb => by
      simp only [Go.AS.below, Bool.and_eq_true] at hb
      exact .fn f a b A B (iha hb.1) (ihb hb.2))
    (fun r B d S h hb => .mp r B d S (by rw [Env.cut_lt F (blt_eq hb)]; exact h)) (fun v _ => .lit v)
    (fun k V h _ => .opq k V h) (fun _ => .nil) (fun x X xs Xs _ _ ih ihs hb => by
      simp only [Go.AS.belows, Bool.and_eq_true] at hb
      exact .cons x X xs Xs (ih hb.1) (ihs hb.2)) h0

/-- A block that is there already is taken in under the next number. -/
theorem OK.adopt {E : Env} {H H' : HP} {N0 : Nat} {w : World} (h : OK E H N0 w) {ob : Obj} {S B : Nat} (hm : Made E H H' ob S) (hB : w.heap[B]? = some ob) (hN : N0 ≤ B) (hfr : ∀ i x, E.μ i = some x → x.1 ≠ B) :
    OK (E.ext H.nxt (B, 0, S)) H' N0 w := by
  have hnone := h.fr H.nxt (Nat.le_refl _)
  have hle := E.le_ext (B, 0, S) hnone
  have hBs : B < w.heap.size := (Array.getElem?_eq_some_iff.1 hB).1
  have hbd : ∀ i x, (E.ext H.nxt (B, 0, S)).μ i = some x → x.1 < w.heap.size := by
    intro i x hx
    by_cases e : i = H.nxt
    · subst e; rw [Env.ext_at] at hx; cases hx; exact hBs
    · rw [Env.ext_ne E _ e] at hx; exact h.bd i x hx
  have hfrN : ∀ i, H.nxt + 1 ≤ i → (E.ext H.nxt (B, 0, S)).μ i = none := fun i hi => by
    rw [Env.ext_ne E _ (by omega)]; exact h.fr i (by omega)
  -- the two kinds of what is made
  have sepK : ∀ (O : Ob), ∀ i j oi oj B1 d1 S1 d2 S2, i ≠ j → (H.obs.put H.nxt O).get i = some oi → (H.obs.put H.nxt O).get j = some oj → (E.ext H.nxt (B, 0, S)).μ i = some (B1, d1, S1) → (E.ext H.nxt (B, 0, S)).μ j = some (B1, d2, S2) → N0 ≤ B1 →
      ∃ ki kj, oi = .cells ki ∧ oj = .cells kj ∧ ki.cls = kj.cls ∧ d1 + kj.base = d2 + ki.base := by
    intro O i j oi oj B1 d1 S1 d2 S2 hij hi hj mi mj hB1
    rw [Tr.get_put] at hi hj
    by_cases ei : i = H.nxt
    · have ej : j ≠ H.nxt := fun e => hij (ei.trans e.symm)
      rw [Env.ext_ne E _ ej] at mj
      subst ei
      rw [Env.ext_at] at mi; cases mi
      exact absurd rfl (hfr j _ mj)
    · rw [if_neg ei] at hi
      rw [Env.ext_ne E _ ei] at mi
      by_cases ej : j = H.nxt
      · subst ej
        rw [Env.ext_at] at mj; cases mj
        exact absurd rfl (hfr i _ mi)
      · rw [if_neg ej] at hj
        rw [Env.ext_ne E _ ej] at mj
        exact h.hr.sep i j oi oj B1 d1 S1 d2 S2 hij hi hj mi mj hB1
  rcases hm with ⟨cells, el, xsz, Cs, rfl, rfl, rfl, hv, hx⟩ | ⟨rfl, rfl⟩
  · refine ⟨⟨?_, sepK _⟩, hfrN, ?_, h.n0, hbd⟩
    · intro i ob hi
      have hi' : (H.obs.put H.nxt (.cells ⟨H.nxt, 0, cells, el, xsz, false⟩)).get i = some ob := hi
      rw [Tr.get_put] at hi'
      by_cases e : i = H.nxt
      · subst e
        rw [if_pos rfl] at hi'
        cases hi'
        refine ⟨B, 0, Cs.size, Env.ext_at _ _ _, ⟨⟨Cs, (0, 0), hB, rfl, fun j x hj => ?_, fun _ c hc => ?_⟩, fun n hn => ⟨hx n hn, rfl⟩, fun _ => hN, fun e => by cases e⟩⟩
        · obtain ⟨X, hX, hvv⟩ := hv j x hj
          exact ⟨X, by simpa using hX, hvv.mono hle⟩
        · have hc' : (H.cls.put H.nxt ⟨[H.nxt], 0⟩).get H.nxt = some c := hc
          rw [Tr.get_put, if_pos rfl] at hc'
          cases hc'
          exact ⟨by simp, fun r h1 h2 => absurd h2 (by simp)⟩
      · rw [if_neg e] at hi'
        obtain ⟨B', d, S', hμ, hr⟩ := h.hr.obj i ob hi'
        refine ⟨B', d, S', by rw [Env.ext_ne E _ e]; exact hμ, (hr.mono hle).into rfl fun k hk c hc => ?_⟩
        subst hk
        have hc' : (H.cls.put H.nxt ⟨[H.nxt], 0⟩).get k.cls = some c := hc
        rw [Tr.get_put, if_neg (by have := h.cl i k hi'; omega)] at hc'
        exact .inl hc'
    · intro i k hi
      have hi' : (H.obs.put H.nxt (.cells ⟨H.nxt, 0, cells, el, xsz, false⟩)).get i = some (.cells k) := hi
      rw [Tr.get_put] at hi'
      show k.cls < H.nxt + 1
      split at hi'
      · cases hi'; exact Nat.lt_succ_self _
      · exact Nat.lt_succ_of_lt (h.cl i k hi')
  · refine ⟨⟨?_, sepK _⟩, hfrN, ?_, h.n0, hbd⟩
    · intro i ob hi
      rw [Tr.get_put] at hi
      by_cases e : i = H.nxt
      · subst e
        rw [if_pos rfl] at hi
        cases hi
        exact ⟨B, 0, S, Env.ext_at _ _ _, hN, #[], 0, hB, trivial⟩
      · rw [if_neg e] at hi
        obtain ⟨B', d, S', hμ, hr⟩ := h.hr.obj i ob hi
        exact ⟨B', d, S', by rw [Env.ext_ne E _ e]; exact hμ, (hr.mono hle).into rfl fun k hk c hc => .inl hc⟩
    · intro i k hi
      rw [Tr.get_put] at hi
      show k.cls < H.nxt + 1
      split at hi
      · cases hi
      · exact Nat.lt_succ_of_lt (h.cl i k hi)

/-! ### what stands ahead of what -/
theorem foldl_or (f : Edge → Nat) : ∀ (l : List Edge) (s i : Nat), (l.foldl (fun s e => cond (Region.binds .any e) (s ||| f e) s) s).testBit i = true → s.testBit i = true ∨ ∃ e ∈ l, Region.binds .any e = true ∧ (f e).testBit i = true
  | [], s, i, h => .inl h
  | e :: l, s, i, h => by
    rw [List.foldl_cons] at h
    rcases foldl_or f l _ i h with h1 | ⟨e', he', h1, h2⟩
    · cases hb : Region.binds .any e with
      | false => rw [hb] at h1; exact .inl h1
      | true =>
        rw [hb] at h1
        simp only [cond_true, Nat.testBit_or, Bool.or_eq_true] at h1
        rcases h1 with h1 | h1
        · exact .inl h1
        · exact .inr ⟨e, by simp, hb, h1⟩
    · exact .inr ⟨e', List.mem_cons_of_mem _ he', h1, h2⟩

/-- The masks so far are those of what stands in front. -/
def MaskOk (ops : List Oper) (acc : List Nat) : Prop :=
  ∀ (L : Nat → Bool), (∀ (j : Nat) o, ops[j]? = some o → L j = true → ∀ e ∈ o.after, Region.binds .any e = true → L e.on = true) →
    ∀ (j : Nat) o i, j < acc.length → ops[j]? = some o → (∀ e ∈ o.after, Region.binds .any e = true → L e.on = true) → mk acc j i = true → L i = true

theorem masks_ok (all : List Oper) (hback : ∀ (i : Nat) o, all[i]? = some o → ∀ e ∈ o.after, Region.binds .any e = true → e.on < i) : ∀ (l : List Oper) (acc : List Nat), all.drop acc.length = l → MaskOk all acc → MaskOk all (masks l acc)
  | [], acc, _, h => h
  | o :: r, acc, hd, h => by
    have ho : all[acc.length]? = some o := by
      have : (all.drop acc.length)[0]? = some o := by rw [hd]; rfl
      simpa using this
    refine masks_ok all hback r _ (by
      rw [List.length_append, List.length_singleton, ← List.drop_drop, hd]; rfl) ?_
    intro L hL j oj i hj hoj he hmk
    rw [List.length_append, List.length_singleton] at hj
    rcases Nat.lt_or_ge j acc.length with hlt | hge
    · refine h L hL j oj i hlt hoj he ?_
      unfold mk at *
      rw [List.getD_eq_getElem?_getD, List.getElem?_append_left hlt, ← List.getD_eq_getElem?_getD] at hmk
      exact hmk
    · have hje : j = acc.length := by omega
      subst hje
      rw [ho] at hoj; cases hoj
      unfold mk at hmk
      rw [List.getD_eq_getElem?_getD, List.getElem?_append_right (Nat.le_refl _), Nat.sub_self] at hmk
      simp only [List.getElem?_cons_zero, Option.getD_some] at hmk
      have hmk' : (o.after.toList.foldl (fun s e => cond (Region.binds .any e) (s ||| ((1 <<< e.on) ||| acc.getD e.on 0)) s) 0).testBit i = true := by
        have : (fun s e => cond (Region.binds .any e) (s ||| ((1 <<< e.on) ||| acc.getD e.on 0)) s) = (fun (s : Nat) (e : Edge) => cond (Region.binds .any e) (s ||| (1 <<< e.on) ||| acc.getD e.on 0) s) := by
          funext s e
          rw [Nat.or_assoc]
        rw [this]; exact hmk
      rcases foldl_or _ _ _ _ hmk' with h0 | ⟨e, hem, hb, h1⟩
      · simp at h0
      · have hem' : e ∈ o.after := by simpa using hem
        have hon := he e hem' hb
        simp only [Nat.testBit_or, Bool.or_eq_true] at h1
        rcases h1 with h1 | h1
        · have : i = e.on := by
            rw [Nat.one_shiftLeft, Nat.testBit_two_pow] at h1
            simpa using (of_decide_eq_true (by simpa using h1) : e.on = i).symm
          rw [this]; exact hon
        · have hlt := hback _ _ ho e hem' hb
          have hge : e.on < all.length := by
            have := (List.getElem?_eq_some_iff.1 ho).1
            omega
          exact h L hL e.on _ i hlt (List.getElem?_eq_getElem hge) (hL e.on _ (List.getElem?_eq_getElem hge) hon) h1

theorem mk_sound {ops : Array Oper} (hback : ∀ (i : Nat) o, ops[i]? = some o → ∀ e ∈ o.after, Region.binds .any e = true → e.on < i) {L : Nat → Bool} (hL : ∀ (j : Nat) o, ops[j]? = some o → L j = true → ∀ e ∈ o.after, Region.binds .any e = true → L e.on = true)
    {j i : Nat} {o : Oper} (ho : ops[j]? = some o) (he : ∀ e ∈ o.after, Region.binds .any e = true → L e.on = true) (h : mk (masks ops.toList []) j i = true) : L i = true := by
  have hlen : ∀ (l : List Oper) (acc : List Nat), (masks l acc).length = acc.length + l.length := by
    intro l
    induction l with
    | nil => intro acc; simp [masks]
    | cons o l ih => intro acc; simp only [masks, ih, List.length_append, List.length_cons, List.length_nil]; omega
  refine masks_ok ops.toList (fun i o hi => hback i o (by simpa using hi)) ops.toList [] rfl (fun L _ j o i hj => absurd hj (by simp)) L (fun j o hj => hL j o (by simpa using hj)) j o i ?_ (by simpa using ho) he h
  rw [hlen]
  have := (Array.getElem?_eq_some_iff.1 ho).1
  simpa using this
end Go.AS
