/-
  The region that lays a bool which may be either.
-/
import Derived.Test.YtffklpenfaocbaaGreatDoorAsR
set_option linter.unusedVariables false
set_option linter.unusedSimpArgs false
namespace Go.AS
open Go.RowKit

theorem OK.frame {E : Env} {H : HP} {N0 : Nat} {w w' : World} (h : OK E H N0 w) (hw : ∀ i B d S, E.μ i = some (B, d, S) → w'.heap[B]? = w.heap[B]?) (hs : w.heap.size ≤ w'.heap.size) : OK E H N0 w' :=
  ⟨h.hr.same fun i ob _ B d S hμ => hw i B d S hμ, h.fr, h.cl, Nat.le_trans h.n0 hs, fun i x hx => Nat.lt_of_lt_of_le (h.bd i x hx) hs⟩

theorem hide_eq {T : TM} {d j : Nat} {x : AV} (h : TM.hide T d j = some x) : j ≠ d ∧ T j = some x := by
  unfold TM.hide at h
  rw [ite'_beq] at h
  split at h
  · cases h
  · rename_i e; exact ⟨e, h⟩

theorem put_eq {T : TM} {d j : Nat} {v x : AV} (h : TM.put T d v j = some x) : (j = d ∧ x = v) ∨ (j ≠ d ∧ T j = some x) := by
  have h' : ite' (Nat.beq j d) (some v) (T j) = some x := h
  rw [ite'_beq] at h'
  split at h'
  · rename_i e; cases h'; exact .inl ⟨e, rfl⟩
  · rename_i e; exact .inr ⟨e, h'⟩

theorem onlyOn_back {l : Array Edge} {want : List Nat} (h : onlyOn l.toList want = true) {e : Edge} (he : e ∈ l) (hb : Region.binds .any e = true) : e.on ∈ want := by
  unfold onlyOn at h
  simp only [Bool.and_eq_true, List.all_eq_true] at h
  have := h.1 e (by simpa using he)
  rw [hb] at this
  simp only [Bool.not_true, Bool.false_or, List.any_eq_true] at this
  obtain ⟨n, hn, h2⟩ := this
  have : e.on = n := Nat.eq_of_beq_eq_true h2
  rw [this]; exact hn
theorem onlyOn_has {l : Array Edge} {want : List Nat} (h : onlyOn l.toList want = true) {n : Nat} (hn : n ∈ want) : ∃ e ∈ l, Region.binds .any e = true ∧ e.on = n := by
  unfold onlyOn at h
  simp only [Bool.and_eq_true, List.all_eq_true] at h
  have := h.2 n hn
  simp only [List.any_eq_true, Bool.and_eq_true, Nat.beq_eq] at this
  obtain ⟨e, he, h1, h2⟩ := this
  exact ⟨e, by simpa using he, h1, h2⟩

theorem isBoolT_eq {P : Program} {t : TypeId} (h : isBoolT P t = true) : ∃ b, zeroOf P t = some (.bool b) ∧ isAg P t = some false ∧ szOf P t = some 1 := by
  unfold isBoolT at h
  split at h
  · rename_i b h1 h2 h3; exact ⟨b, h1, h2, h3⟩
  · cases h

section
variable {c : Cx} {E : Env} {T : TM} {N N0 : Nat} {H : HP}

structure DInv (c : Cx) (E : Env) (T : TM) (N N0 : Nat) (H : HP) (w : World) (d : DMode) (L : Nat → Bool) (a' : Act) (w' : World) : Prop where
  sr : SR c N N0 (TM.hide (TM.hide T d.p) d.r) H E a' w'
  go : Goes E E N0 w w'
  pt : L 0 = true → ∃ B b fz, a'.tmps[d.p]? = some (.pointer (some ⟨B, 0, none⟩)) ∧ w'.heap[B]? = some (.cells #[.bool b] d.t (0, fz)) ∧ fz = 0 ∧ (∀ i x, E.μ i = some x → x.1 ≠ B) ∧ w.heap.size ≤ B
  cl : L 1 = true → L 0 = true
  rs : L 3 = true → ∃ b, a'.tmps[d.r]? = some (.bool b)

theorem dm_store {P : Program} {w' : World} {a' : Act} {d : DMode} {B : Nat} {b v : Bool} (h1 : a'.tmps[d.p]? = some (.pointer (some ⟨B, 0, none⟩))) (h2 : w'.heap[B]? = some (.cells #[.bool b] d.t (0, 0))) (hsz : szOf P d.t = some 1) :
    (Instr.storeAt d.t (a'.eval (.tmp d.p)) (.bool v)).run P w' = .ok () (w'.setCells B 0 [.bool v]) := by
  have he : a'.eval (.tmp d.p) = .pointer (some ⟨B, 0, none⟩) := by
    show a'.tmps.getD d.p undef = _
    rw [Array.getD_eq_getD_getElem?, h1]; rfl
  have hst := run_storeCells_cells (P := P) B 0 [.bool v] 0 w' (fun j hj => by
      have : j = 0 := by simpa using hj
      subst this
      simp [World.cell?, h2]) (fun j hj => by simp [World.frozen?, h2]) (fun u hu => by
      simp only [List.mem_singleton] at hu
      subst hu; rfl)
  simp [he, Instr.storeAt, Instr.sureAddr, storeVar, Value.cells, szOf_run hsz]
  simpa using hst

theorem dm_after {w' : World} {B : Nat} {b v : Bool} {t : TypeId} (h2 : w'.heap[B]? = some (.cells #[.bool b] t (0, 0))) : (w'.setCells B 0 [.bool v]).heap[B]? = some (.cells #[.bool v] t (0, 0)) := by
  have := heap_setCell_at w' B 0 (.bool v) _ _ _ h2
  simpa [World.setCells] using this

theorem wpOp_free {P : Program} {ops : Array Oper} {Q : Exit → Act → World → Prop} {i : Nat} {o : Oper} {K : Act → World → Prop} {a : Act} {w : World} (hi : ops[i]? = some o) (hg : o.guard = none) (h : o.wp P a w K Q) : wpOp P ops Q i K a w := by
  unfold wpOp
  rw [hi]
  simp only
  have : Region.wanted o (yielded ops a.tmps) = true := by unfold Region.wanted; rw [hg]
  rw [if_pos this]
  exact .inl h

theorem DInv.stored {w w1 : World} {d : DMode} {L : Nat → Bool} {a1 : Act} (hI : DInv c E T N N0 H w d L a1 w1) (h0 : L 0 = true) {B : Nat} {b v : Bool} (h1 : a1.tmps[d.p]? = some (.pointer (some ⟨B, 0, none⟩))) (h2 : w1.heap[B]? = some (.cells #[.bool b] d.t (0, 0)))
    (h3 : ∀ i x, E.μ i = some x → x.1 ≠ B) (h4 : w.heap.size ≤ B) (i : Nat) (hi : i = 1 ∨ i = 2) : DInv c E T N N0 H w d (fun j => j == i || L j) a1 (w1.setCells B 0 [.bool v]) where
  sr := ⟨hI.sr.tr, hI.sr.sz, hI.sr.df, hI.sr.ok.frame (fun i B' dd S hμ => heap_setCells_far B _ 0 w1 B' (h3 i _ hμ)) (by rw [(size_setCells' B _ 0 w1).1]; exact Nat.le_refl _), hI.sr.gl⟩
  go := by
    obtain ⟨s1, s2, s3, s4⟩ := size_setCells' B [Value.bool v] 0 w1
    exact ⟨.refl E, s2.trans hI.go.os, s3.trans hI.go.tape, s4.trans hI.go.output, by rw [s1]; exact hI.go.size, fun B' hB' hR => (heap_setCells_far B _ 0 w1 B' (by omega)).trans (hI.go.old B' hB' hR), fun _ _ h => .inl h⟩
  pt := fun _ => ⟨B, v, 0, h1, dm_after h2, rfl, h3, h4⟩
  cl := fun _ => by simp [h0]
  rs := fun h => hI.rs (by
    rcases hi with rfl | rfl <;> simpa using h)

theorem dm_sound (hm : c.P.follows .mixedOrders = true) {id : Nat} {ops : Array Oper} {d : DMode} (hd : dmOps ops.toList = some d) (hbt : isBoolT c.P d.t = true) (hr : d.r < N) (hp : d.p < N) {a : Act} {w : World} {Q : Exit → Act → World → Prop}
    (hs : SR c N N0 T H E a w) (hQ : ∀ b a' w', SR c N N0 (TM.put (TM.hide T d.p) d.r (.bool b)) H E a' w' → Goes E E N0 w w' → Q .normal a' w') : (Code.region id ops true).wp c.P Q a w := by
  obtain ⟨b0, hz, hag, hsz⟩ := isBoolT_eq hbt
  obtain ⟨Z, hZ, hzr, -⟩ := zeroOf_run (E := E) hz
  generalize hl : ops.toList = l at hd
  unfold dmOps at hd
  split at hd
  · rename_i d0 t0 ty0 p0 a0 t1 d1 ty1 p1 a1 t2 d2 ty2 p2 a2 d3 t3 d4 ty3 p3 a3
    rw [cond_eq_ite] at hd
    split at hd
    · rename_i hc
      simp only [Option.some.injEq] at hd
      subst hd
      simp only [Bool.and_eq_true, Nat.beq_eq, Bool.not_eq_true'] at hc
      obtain ⟨⟨⟨⟨⟨⟨⟨⟨⟨⟨rfl, rfl⟩, rfl⟩, rfl⟩, rfl⟩, rfl⟩, hne⟩, o0⟩, o1⟩, o2⟩, o3⟩ := hc
      have hne : d0 ≠ d3 := fun e => by subst e; simp [Nat.beq_refl] at hne
      have := arr_of hl
      subst this
      refine wp_region_inv hm ?_ (DInv c E T N N0 H w ⟨d0, d3, t0⟩) ?_ ?_ ?_
      · intro i o hi e he hb
        rcases i with _ | _ | _ | _ | i
        · simp at hi; subst hi; have := onlyOn_back o0 he hb; simp at this
        · simp at hi; subst hi; have := onlyOn_back o1 he hb; simp at this; omega
        · simp at hi; subst hi; have := onlyOn_back o2 he hb; simp at this; omega
        · simp at hi; subst hi; have := onlyOn_back o3 he hb; simp at this; omega
        · simp at hi
      · intro L i o a1' w1 hi hL hpre hI
        rcases i with _ | _ | _ | _ | i
        · simp at hi; subst hi
          refine wpOp_free (o := ⟨some d0, .alloc t0, ty0, p0, a0, none⟩) rfl rfl ?_
          have hZb : Z = .bool b0 := by cases hZ; rfl
          subst hZb
          have hrun : (execOp a1'.eval ⟨some d0, .alloc t0, ty0, p0, a0, none⟩).run c.P w1 = .ok (.value (.pointer (some ⟨w1.heap.size, 0, none⟩))) (w1.alloc (.cells #[.bool b0] t0)) := by
            simp [execOp, Instr.alloc, hzr, run_newVar, Value.cells]
          unfold Oper.wp
          rw [hrun]
          have hold : ∀ B, B < w1.heap.size → (w1.alloc (.cells #[.bool b0] t0)).heap[B]? = w1.heap[B]? := fun B hB => heap_alloc_old w1 _ hB
          refine ⟨⟨?_, (put_size _ _).trans hI.sr.sz, (put_defers _ _).trans hI.sr.df, hI.sr.ok.frame (fun i B dd S hμ => hold B (hI.sr.ok.bd i _ hμ)) (by simp), hI.sr.gl⟩, ?_, ?_, ?_, ?_⟩
          · intro t x hx
            obtain ⟨n1, hx1⟩ := hide_eq hx
            obtain ⟨n2, hx2⟩ := hide_eq hx1
            obtain ⟨X, hX, hv⟩ := hI.sr.tr t x hx
            refine ⟨X, ?_, hv⟩
            show (a1'.tmps.setIfInBounds d0 _)[t]? = some X
            rw [Array.getElem?_setIfInBounds_ne (Ne.symm n2)]; exact hX
          · exact hI.go.trans ⟨.refl E, rfl, rfl, rfl, by simp, fun B hB _ => hold B hB, fun _ _ h => .inl h⟩
          · intro _
            refine ⟨w1.heap.size, b0, 0, ?_, heap_alloc_at _ _, rfl, fun i x hx => ?_, hI.go.size⟩
            · show (a1'.tmps.setIfInBounds d0 _)[d0]? = _
              have : d0 < a1'.tmps.size := by rw [hI.sr.sz]; exact hp
              simp [this]
            · have := hI.sr.ok.bd i x hx; omega
          · intro _; simp
          · intro h3
            have h3' : L 3 = true := by simpa using h3
            obtain ⟨b, hb⟩ := hI.rs h3'
            refine ⟨b, ?_⟩
            show (a1'.tmps.setIfInBounds d0 _)[d3]? = _
            rw [Array.getElem?_setIfInBounds_ne hne]; exact hb
        · simp at hi; subst hi
          refine wpOp_free (o := ⟨none, .store t0 (.tmp d0) (.const (.bool true)), ty1, p1, a1, none⟩) rfl rfl ?_
          obtain ⟨e, he, hb, hon⟩ := onlyOn_has o1 (n := 0) (by simp)
          have h0 : L 0 = true := by have := hpre e he hb; rwa [hon] at this
          obtain ⟨B, b, fz, g1, g2, rfl, g4, g5⟩ := hI.pt h0
          have hrun : (execOp a1'.eval ⟨none, .store t0 (.tmp d0) (.const (.bool true)), ty1, p1, a1, none⟩).run c.P w1 = .ok .skip (w1.setCells B 0 [.bool true]) := by
            have := dm_store (P := c.P) (v := true) g1 g2 hsz
            simp only [execOp, Sem.run_bind]
            rw [show a1'.eval (.const (.bool true)) = .bool true from rfl, this]; rfl
          unfold Oper.wp
          rw [hrun]
          exact hI.stored h0 g1 g2 g4 g5 1 (.inl rfl)
        · simp at hi; subst hi
          refine wpOp_free (o := ⟨none, .store t0 (.tmp d0) (.const (.bool false)), ty2, p2, a2, none⟩) rfl rfl ?_
          obtain ⟨e, he, hb, hon⟩ := onlyOn_has o2 (n := 0) (by simp)
          have h0 : L 0 = true := by have := hpre e he hb; rwa [hon] at this
          obtain ⟨B, b, fz, g1, g2, rfl, g4, g5⟩ := hI.pt h0
          have hrun : (execOp a1'.eval ⟨none, .store t0 (.tmp d0) (.const (.bool false)), ty2, p2, a2, none⟩).run c.P w1 = .ok .skip (w1.setCells B 0 [.bool false]) := by
            have := dm_store (P := c.P) (v := false) g1 g2 hsz
            simp only [execOp, Sem.run_bind]
            rw [show a1'.eval (.const (.bool false)) = .bool false from rfl, this]; rfl
          unfold Oper.wp
          rw [hrun]
          exact hI.stored h0 g1 g2 g4 g5 2 (.inr rfl)
        · simp at hi; subst hi
          refine wpOp_free (o := ⟨some d3, .load t0 (.tmp d0), ty3, p3, a3, none⟩) rfl rfl ?_
          obtain ⟨e, he, hb, hon⟩ := onlyOn_has o3 (n := 1) (by simp)
          have h1 : L 1 = true := by have := hpre e he hb; rwa [hon] at this
          have h0 := hI.cl h1
          obtain ⟨B, b, fz, g1, g2, rfl, g4, g5⟩ := hI.pt h0
          have hrun : (execOp a1'.eval ⟨some d3, .load t0 (.tmp d0), ty3, p3, a3, none⟩).run c.P w1 = .ok (.value (.bool b)) w1 := by
            have he : a1'.eval (.tmp d0) = .pointer (some ⟨B, 0, none⟩) := by
              show a1'.tmps.getD d0 undef = _
              have g1' : a1'.tmps[d0]? = some (.pointer (some ⟨B, 0, none⟩)) := g1
              rw [Array.getD_eq_getD_getElem?, g1']; rfl
            have hc : w1.cell? ⟨B, 0, none⟩ = some (.bool b) := by simp [World.cell?, g2]
            simp [execOp, he, Instr.loadAt, Instr.sureAddr, loadVar, isAg_run hag, hc]
          unfold Oper.wp
          rw [hrun]
          refine ⟨⟨?_, (put_size _ _).trans hI.sr.sz, (put_defers _ _).trans hI.sr.df, hI.sr.ok, hI.sr.gl⟩, hI.go, ?_, ?_, ?_⟩
          · intro t x hx
            obtain ⟨n1, hx1⟩ := hide_eq hx
            obtain ⟨X, hX, hv⟩ := hI.sr.tr t x hx
            refine ⟨X, ?_, hv⟩
            show (a1'.tmps.setIfInBounds d3 _)[t]? = some X
            rw [Array.getElem?_setIfInBounds_ne (Ne.symm n1)]; exact hX
          · intro _
            refine ⟨B, b, 0, ?_, g2, rfl, g4, g5⟩
            show (a1'.tmps.setIfInBounds d3 _)[d0]? = _
            rw [Array.getElem?_setIfInBounds_ne (Ne.symm hne)]; exact g1
          · intro _; simp [h0]
          · intro _
            refine ⟨b, ?_⟩
            show (a1'.tmps.setIfInBounds d3 _)[d3]? = _
            have : d3 < a1'.tmps.size := by rw [hI.sr.sz]; exact hr
            simp [this]
        · simp at hi
      · intro L a' w' hall hI
        obtain ⟨b, hb⟩ := hI.rs (hall 3 (by simp))
        refine hQ b a' w' ⟨?_, hI.sr.sz, hI.sr.df, hI.sr.ok, hI.sr.gl⟩ hI.go
        intro t x hx
        rcases put_eq hx with ⟨rfl, rfl⟩ | ⟨n1, hx1⟩
        · exact ⟨_, hb, .bool b⟩
        · refine hI.sr.tr t x ?_
          show ite' (Nat.beq t d3) Option.none (TM.hide T d0 t) = some x
          rw [ite'_beq, if_neg n1]; exact hx1
      · refine ⟨⟨hs.tr.less fun j x hx => (hide_eq (hide_eq hx).2).2, hs.sz, hs.df, hs.ok.drew, hs.gl⟩, (Goes.refl E N0 w).drew, ?_, ?_, ?_⟩ <;> intro h <;> cases h
    · cases hd
  · cases hd
end
end Go.AS
