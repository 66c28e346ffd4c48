/-
  Appends.
-/
import Derived.Test.YtffklpenfaocbaaGreatDoorAsN
set_option linter.unusedVariables false
set_option linter.unusedSimpArgs false
namespace Go.AS
open Go.RowKit

theorem blt_eq {a b : Nat} (h : Nat.blt a b = true) : a < b := by
  have : Nat.ble (Nat.succ a) b = true := h
  rw [Nat.ble_eq] at this; exact this

theorem ones_map (s : List Nat) : (s.map byteAV).all AV.one = true := by simp [byteAV, AV.one]

section
variable {P : Program} {E : Env}

theorem srcOf_sound {H : HP} {N0 : Nat} {w : World} (hok : OK E H N0 w) {sz : Nat} {tx : TypeId} {x : AV} {X : Value} (hx : VR E x X) {xs : List AV} {n : Nat} (h : srcOf P H sz tx x = some (xs, n)) :
    ∃ Xs, VRs E xs Xs ∧ Src P sz tx X n Xs w := by
  unfold srcOf at h
  split at h
  · simp only [bnd_eq] at h
    obtain ⟨d, hd, h⟩ := h
    split at h
    · simp only [Option.some.injEq, Prod.mk.injEq] at h
      obtain ⟨rfl, rfl⟩ := h
      cases hx
      exact ⟨[], .nil, Src.ofNil w hd 0⟩
    · cases h
  · simp only [bnd_eq] at h
    obtain ⟨d, hd, h⟩ := h
    split at h
    · simp only [bnd_eq, tst_eq, Option.some.injEq, Prod.mk.injEq, Nat.beq_eq] at h
      obtain ⟨rfl, l, hl, h1, rfl, rfl⟩ := h
      cases hx
      rename_i B d S D c' hμ hD hc hS' hex
      obtain ⟨Xs, hX, hlen, hcell⟩ := hok.hr.rd hl (fun ob hob => hob) hμ
      refine ⟨Xs, hX, Src.ofSlice w hd _ _ _ Xs hlen (fun j u hj => ?_) (ones_of hX h1)⟩
      rw [Addr.add_any]
      rcases hD with rfl | ⟨hn0, -⟩
      · exact hcell j u hj
      · subst hn0
        have hlt := (List.getElem?_eq_some_iff.1 hj).1
        rw [hlen] at hlt
        omega
    · cases h
  · simp only [bnd_eq] at h
    obtain ⟨d, hd, h⟩ := h
    split at h
    · simp only [bnd_eq, tst_eq, Option.some.injEq, Prod.mk.injEq, Nat.beq_eq] at h
      obtain ⟨rfl, rfl, rfl⟩ := h
      cases hx
      rename_i b hb
      have hlen := str_size hb
      rw [← hlen]
      refine ⟨byteCells b, ?_, Src.ofString w hd b⟩
      subst hb
      unfold byteCells
      have key : ∀ l : List UInt8, VRs E ((l.map UInt8.toNat).map byteAV) (l.map fun u => Value.int .u8 u.toNat) := by
        intro l
        induction l with
        | nil => exact .nil
        | cons u l ih => exact .cons _ _ _ _ (.int _ _) ih
      exact key _
    · cases h
  · cases h

theorem zeroFits_eq {z : Option Value} {n : Nat} (h : zeroFits z n = true) : ∃ Z, z = some Z ∧ Z.cells.size = n := by
  cases z with
  | none => cases h
  | some Z => exact ⟨Z, rfl, by
      have : Nat.beq Z.cells.size n = true := h
      rwa [Nat.beq_eq] at this⟩

theorem zeroCells_size (z : Array Value) (n : Nat) : (Builtin.zeroCells z n).size = n * z.size := by simp [Builtin.zeroCells]

theorem fit_of {n sz b old : Nat} (h : n * b ≤ 140737488355328) (hb : 0 < b) (ho : old < n) : ((n : Nat) : Int) ≤ 9223372036854775807 ∧ Builtin.nextslicecap n old * b ≤ 281474976710656 := by
  have h1 : n ≤ n * b := Nat.le_mul_of_pos_right n hb
  have h2 := Nat.mul_le_mul_right b (nextslicecap_le ho)
  rw [Nat.mul_assoc] at h2
  exact ⟨by omega, by omega⟩

theorem grown_get {L : List Value} {Z : Array Value} {ys : List AV} (h : VRs E ys L) (j : Nat) (x : AV) (hj : ys[j]? = some x) : ∃ X, (L.toArray ++ Z)[j]? = some X ∧ VR E x X := by
  obtain ⟨X, hX, hv⟩ := h.get j x hj
  refine ⟨X, ?_, hv⟩
  have hlt := (List.getElem?_eq_some_iff.1 hX).1
  rw [Array.getElem?_append_left (by simpa using hlt)]
  simpa using hX

/-- A new block, and what is in it. -/
theorem appNew_sound {H : HP} {N0 : Nat} {w : World} (hok : OK E H N0 w) {e : TypeId} {sz need cap : Nat} {cells : List AV} {L : List Value} {Z : Array Value} (hc : VRs E cells L) (hcap : need ≤ cap)
    (hsz : (L.toArray ++ Z).size = cap * sz) : ∃ E', OK E' (appNew H e sz cells need).2 N0 (w.drew.alloc (.cells (L.toArray ++ Z) e)) ∧ Goes E E' N0 w (w.drew.alloc (.cells (L.toArray ++ Z) e)) ∧
      VR E' (appNew H e sz cells need).1 (.slice (some ⟨w.heap.size, 0, none⟩) need cap) := by
  have h1 := hok.drew.alloc cells (L.toArray ++ Z) e none (fun j x hj => grown_get hc j x hj) (fun n hn => by cases hn)
  refine ⟨_, h1, (Goes.alloc E N0 w.drew _ H.nxt _ (hok.fr H.nxt (Nat.le_refl _))).drew', ?_⟩
  exact .slc _ 0 need need sz false w.heap.size 0 _ 0 cap (Env.ext_at _ _ _) hcap (fun e => by cases e) (.inl rfl) (by rw [hsz]; omega)

/-- What the members of a class are cut to lies ahead of the place. -/
theorem cut_far {H : HP} {N0 : Nat} {w : World} (hok : OK E H N0 w) {b : Nat} {k : Blk} (hb : H.obs.get b = some (.cells k)) (hro : k.ro = false) {c : Cls} (hc : H.cls.get k.cls = some c) {B d S : Nat} (hμ : E.μ b = some (B, d, S)) (x : Nat)
    {i : Nat} {oi : Ob} {d1 S1 : Nat} (hi : (cut (k.base + x) none c.mem H.obs).get i = some oi) (hμi : E.μ i = some (B, d1, S1)) :
    ∃ k1, oi = .cells k1 ∧ k1.cls = k.cls ∧ d1 + k.base = d + k1.base ∧ (k1.cells ≠ [] → d1 + k1.cells.length ≤ d + x) := by
  obtain ⟨ob0, a1, a2, a3⟩ := cut_get _ _ _ _ i oi hi
  obtain ⟨B', d', S', hμ', hr⟩ := hok.hr.obj b _ hb
  rw [hμ] at hμ'; cases hμ'
  obtain ⟨⟨Cs, fz, h1, h2, h3, h4⟩, h5, h6, h7⟩ := hr
  have hN := h6 hro
  have key : ∃ k0, ob0 = .cells k0 ∧ k0.cls = k.cls ∧ d1 + k.base = d + k0.base ∧ i ∈ c.mem := by
    by_cases e : i = b
    · subst e
      rw [hb] at a1; cases a1
      rw [hμ] at hμi; cases hμi
      exact ⟨k, rfl, rfl, rfl, (h4 hro c hc).1⟩
    · obtain ⟨ki, kj, e1, e2, e3, e4⟩ := hok.hr.sep i b ob0 _ B d1 S1 d S e a1 hb hμi hμ hN
      cases e2
      subst e1
      obtain ⟨B2, d2, S2, hμ2, hr2⟩ := hok.hr.obj i _ a1
      rw [hμi] at hμ2; cases hμ2
      obtain ⟨⟨Cs2, fz2, g1, g2, g3, g4⟩, g5, g6, g7⟩ := hr2
      have hro2 : ki.ro = false := by
        cases hr : ki.ro with
        | false => rfl
        | true => have := g7 hr; omega
      exact ⟨ki, rfl, e3, e4, (g4 hro2 c (by rw [e3]; exact hc)).1⟩
  obtain ⟨k0, rfl, k1, k2, k3⟩ := key
  cases oi with
  | mp _ => exact a2.elim
  | cells kk =>
    obtain ⟨e1, -⟩ := a2
    have hb1 : kk.base = k0.base := by rw [e1]
    have hc1 : kk.cls = k0.cls := by rw [e1]
    have hlen := a3 k3 (by simp) kk rfl
    refine ⟨kk, rfl, hc1.trans k1, by omega, fun hne => ?_⟩
    have : 0 < kk.cells.length := List.length_pos_iff.2 hne
    omega

theorem append_sound {H H' : HP} {N0 : Nat} {w : World} (hok : OK E H N0 w) {t tx ty : TypeId} {s x r : AV} {S X : Value} (hs : VR E s S) (hx : VR E x X) (h : appendA P H t tx s x = some (r, H')) :
    ∃ E' V w', (Builtin.append_ #[t, tx] ty #[S, X]).run P w = .ok V w' ∧ OK E' H' N0 w' ∧ Goes E E' N0 w w' ∧ VR E' r V := by
  simp only [appendA, bnd_eq, tst_eq, Bool.and_eq_true] at h
  obtain ⟨dd, hd, e, he, i, hi, ⟨⟨hz, hpos⟩, hbytes⟩, ⟨xs, n⟩, hsrc, h⟩ := h
  have := sliceD_eq he; subst this
  have hpos := blt_eq hpos
  have hbytes := blt_eq hbytes
  obtain ⟨Z, hZ, hZs⟩ := zeroFits_eq hz
  obtain ⟨Xs, hX, hS⟩ := srcOf_sound hok hx hsrc
  simp only at h
  have hXl := hS.newsLen
  unfold appendOp at h
  split at h
  · -- the nil slice
    cases hs
    rw [ite'_beq] at h
    split at h
    · rename_i hn0
      simp only [Option.some.injEq, Prod.mk.injEq] at h
      obtain ⟨rfl, rfl⟩ := h
      subst hn0
      have hXs0 : Xs = [] := List.eq_nil_of_length_eq_zero (by omega)
      subst hXs0
      refine ⟨E, .slice none 0 0, w, ?_, hok, .refl E N0 w, .nils⟩
      have hcl := hS.cells
      rcases hS.kind with ⟨e', hk⟩ | hk <;> simp [Builtin.append_, run_underlying hd, run_underlying hk, sizeOf, typeInfo, hi, hS.len, hcl]
    · rename_i hn0
      simp only [tst_eq, Option.some.injEq, Nat.ble_eq] at h
      obtain ⟨hfit, h⟩ := h
      obtain ⟨f1, f2⟩ := fit_of (old := 0) (sz := 0) hfit hbytes (by omega)
      have hrun := run_append_grow_src (P := P) w t tx ty e i Z hd hi hZ none 0 0 [] (by simpa using run_firstCells_none w.drew i.size 0 0 0) X n Xs hS (by omega) (by simpa using f1) (by simpa using f2)
      simp only [List.nil_append, Nat.zero_add] at hrun
      have hg := grownCap_ge w n 0 e
      obtain ⟨E', h1, h2, h3⟩ := appNew_sound (e := e) (need := n) (cap := grownCap w n 0 e) (sz := i.size) (Z := Builtin.zeroCells Z.cells (grownCap w n 0 e - n)) hok hX hg (by
        rw [Array.size_append, zeroCells_size, hZs]
        simp only [List.size_toArray]
        rw [hXl, ← Nat.add_mul]; congr 1; omega)
      have h1' : (appNew H e i.size xs n).2 = H' := by rw [h]
      have h3' : (appNew H e i.size xs n).1 = r := by rw [h]
      rw [h1'] at h1; rw [h3'] at h3
      exact ⟨E', _, _, hrun, h1, h2, h3⟩
  · rename_i b o len cp sz' ex
    cases hs
    rename_i B d S D c' hμ hD hc hSz hex
    rw [ite'_beq] at h
    split at h
    · rename_i hn0
      simp only [tst_eq, Option.some.injEq, Prod.mk.injEq, Nat.ble_eq] at h
      obtain ⟨hle, rfl, rfl⟩ := h
      subst hn0
      have hXs0 : Xs = [] := List.eq_nil_of_length_eq_zero (by omega)
      subst hXs0
      have hrun := run_append_room_src (P := P) w t tx ty e i hd hi B D len c' X 0 [] hS (by omega) (fun j hj => absurd hj (by simp)) (fun j hj => absurd hj (by simp))
      exact ⟨E, _, w, hrun, hok, .refl E N0 w, .slc b o len cp sz' ex B d S D c' hμ hc hex hD hSz⟩
    · rename_i hn0
      simp only [bnd_eq, tst_eq, Bool.and_eq_true, Nat.beq_eq, Nat.ble_eq] at h
      obtain ⟨⟨rfl, hfit⟩, olds, hold, h⟩ := h
      obtain ⟨Os, hO, hOl, hOc⟩ := hok.hr.rd hold (fun ob hob => hob) hμ
      have hall := hO.append hX
      have hfirst : (Builtin.firstCells i.size len (.slice (some ⟨B, D, none⟩) len c')).run P w.drew = .ok Os.toArray w.drew := by
        refine run_firstCells_some w.drew i.size len _ len c' Os hOl fun j v hj => ?_
        rw [Addr.add_any]
        rcases hD with rfl | ⟨hl0, -⟩
        · exact hOc j v hj
        · subst hl0
          have hlt := (List.getElem?_eq_some_iff.1 hj).1
          rw [hOl] at hlt; omega
      have grow : c' < len + n → ∃ Z', (Builtin.append_ #[t, tx] ty #[.slice (some ⟨B, D, none⟩) len c', X]).run P w = .ok (.slice (some ⟨w.heap.size, 0, none⟩) (len + n) (grownCap w (len + n) c' e)) (w.drew.alloc (.cells ((Os ++ Xs).toArray ++ Z') e)) ∧
          ((Os ++ Xs).toArray ++ Z').size = grownCap w (len + n) c' e * i.size := by
        intro hg
        obtain ⟨f1, f2⟩ := fit_of (old := c') (sz := 0) hfit hbytes hg
        refine ⟨_, run_append_grow_src (P := P) w t tx ty e i Z hd hi hZ (some ⟨B, D, none⟩) len c' Os hfirst X n Xs hS hg (by simpa using f1) f2, ?_⟩
        have hge := grownCap_ge w (len + n) c' e
        rw [Array.size_append, zeroCells_size, hZs]
        simp only [List.size_toArray, List.length_append]
        rw [hXl, hOl, ← Nat.add_mul, ← Nat.add_mul]; congr 1; omega
      rw [ite'_if] at h
      split at h
      · rename_i hex2
        simp only [Bool.and_eq_true] at hex2
        obtain ⟨he1, he2⟩ := hex2
        have he2 := blt_eq he2
        have := hex he1
        obtain ⟨Z', hrun, hsize⟩ := grow (by omega)
        simp only [Option.some.injEq] at h
        obtain ⟨E', h1, h2, h3⟩ := appNew_sound (e := e) (need := len + n) hok hall (grownCap_ge w (len + n) c' e) hsize
        have h1' : (appNew H e i.size (olds ++ xs) (len + n)).2 = H' := by rw [h]
        have h3' : (appNew H e i.size (olds ++ xs) (len + n)).1 = r := by rw [h]
        rw [h1'] at h1; rw [h3'] at h3
        exact ⟨E', _, _, hrun, h1, h2, h3⟩
      · rename_i hnex
        simp only [bnd_eq, tst_eq, Bool.and_eq_true, Bool.not_eq_true', Nat.beq_eq, Nat.ble_eq, Option.some.injEq] at h
        obtain ⟨k, hk, ⟨hro, hel⟩, c, hcl, hhi, h⟩ := h
        have hb : H.obs.get b = some (.cells k) := by
          unfold HP.blk at hk
          simp only [bnd_eq] at hk
          obtain ⟨ob, hob, hk⟩ := hk
          cases ob with
          | mp _ => cases hk
          | cells k' => cases hk; exact hob
        have hoff : k.base + o + len * i.size = k.base + (o + len * i.size) := by omega
        have hkcl : k.cls < H.nxt := hok.cl b k hb
        have hobs : ∀ j ob', (cut (k.base + o + len * i.size) none c.mem H.obs).get j = some ob' → ∃ ob, H.obs.get j = some ob ∧ ObLe ob' ob := fun j ob' hj => by
          obtain ⟨ob0, a1, a2, -⟩ := cut_get _ _ _ _ j ob' hj
          exact ⟨ob0, a1, a2⟩
        have hH' : H' = forked H k.cls c (cut (k.base + o + len * i.size) none c.mem H.obs) (k.base + o) (olds ++ xs) e := by
          have : (appOver H e k c o (k.base + o + len * i.size) i.size cp ex (olds ++ xs) (len + n)).2 = H' := by rw [h]
          exact this.symm
        have hr' : r = .slc H.nxt 0 (len + n) (ite' (Nat.ble (len + n) cp) cp (len + n)) i.size (ex && Nat.ble (len + n) cp) := by
          have : (appOver H e k c o (k.base + o + len * i.size) i.size cp ex (olds ++ xs) (len + n)).1 = r := by rw [h]
          exact this.symm
        obtain ⟨B', d', S', hμ', hbr⟩ := hok.hr.obj b _ hb
        rw [hμ] at hμ'; cases hμ'
        obtain ⟨⟨Cs, fz, b1, b2, b3, b4⟩, b5, b6, b7⟩ := hbr
        have hN := b6 hro
        obtain ⟨hmem, hfz⟩ := b4 hro c hcl
        rcases Nat.lt_or_ge c' (len + n) with hlt | hroom
        · -- it grows
          obtain ⟨Z', hrun, hsize⟩ := grow hlt
          have hshr : HR E (cut (k.base + o + len * i.size) none c.mem H.obs).get H.cls.get N0 w := hok.hr.shrink hobs
          have hnew : HR E (cut (k.base + o + len * i.size) none c.mem H.obs).get H.cls.get N0 (w.drew.alloc (.cells ((Os ++ Xs).toArray ++ Z') e)) :=
            hshr.same fun j ob hj B1 d1 S1 hm => heap_alloc_old w.drew _ (hshr.lt hj hm)
          have hat := heap_alloc_at w.drew (.cells ((Os ++ Xs).toArray ++ Z') e)
          have hok' := hok.fork (w2 := w.drew.alloc (.cells ((Os ++ Xs).toArray ++ Z') e)) hobs hnew (by simp) hkcl hcl (B := w.heap.size) (d := 0) (fz := (0, 0)) hat hok.n0 (k.base + o) (olds ++ xs)
            (fun j y hj => by rw [Nat.zero_add]; exact grown_get hall j y hj) (fun r h1 h2 => absurd h2 (by simp)) (fun j oj d2 S2 hj hm => absurd (hshr.lt hj hm) (by omega))
          rw [← hH'] at hok'
          refine ⟨_, _, _, hrun, hok', ((Goes.alloc E N0 w.drew _ H.nxt _ (hok.fr H.nxt (Nat.le_refl _))).drew'), ?_⟩
          rw [hr']
          have hge := grownCap_ge w (len + n) c' e
          have hncp : ¬ len + n ≤ cp := by omega
          refine .slc _ 0 _ _ i.size _ w.heap.size 0 _ 0 _ (Env.ext_at _ _ _) ?_ ?_ (.inl rfl) (by rw [hsize]; omega)
          · rw [ite'_if, if_neg (by rw [Nat.ble_eq]; exact hncp)]; exact hge
          · intro hx2
            simp only [Bool.and_eq_true, Nat.ble_eq] at hx2
            exact absurd hx2.2 hncp
        · -- there is room
          clear grow
          have hDd : D = d + o := by
            rcases hD with h | ⟨-, h⟩
            · exact h
            · omega
          subst hDd
          have hmul : (len + n) * i.size ≤ c' * i.size := Nat.mul_le_mul_right _ hroom
          rw [Nat.add_mul] at hmul
          have hfit2 : d + o + len * i.size + Xs.length ≤ Cs.size := by rw [b2, hXl]; omega
          have hrun := run_append_room_src (P := P) w t tx ty e i hd hi B (d + o) len c' X n Xs hS hroom (fun j hj => by
              simp only [World.cell?, b1]
              simp [show d + o + len * i.size + j < Cs.size by omega]) (fun j hj => by
              simp only [World.frozen?, b1]
              rw [Bool.eq_false_iff]
              intro hf
              simp only [Bool.and_eq_true, decide_eq_true_eq] at hf
              have := hfz _ trivial hf.2
              omega)
          have hshr : HR E (cut (k.base + o + len * i.size) none c.mem H.obs).get H.cls.get N0 w := hok.hr.shrink hobs
          have hnew := hshr.far B (d + o + len * i.size) Xs b1 hfit2 (fun j k1 d1 S1 hj hm hne => by
            rw [hoff] at hj
            obtain ⟨k2, e1, e2, e3, e4⟩ := cut_far hok hb hro hcl hμ (o + len * i.size) hj hm
            cases e1
            have := e4 hne
            omega)
          obtain ⟨Cs', g1, g2, g3⟩ := heap_setCells_at B k.el fz Xs (d + o + len * i.size) w Cs b1 hfit2
          have hgo : Goes E E N0 w (w.setCells B (d + o + len * i.size) Xs) := Goes.cells ⟨hN, b, d, S, hμ⟩ _ _
          have hsep : ∀ j oj d2 S2, (cut (k.base + o + len * i.size) none c.mem H.obs).get j = some oj → E.μ j = some (B, d2, S2) → ∃ kj, oj = .cells kj ∧ kj.cls = k.cls ∧ d + o + kj.base = d2 + (k.base + o) := by
            intro j oj d2 S2 hj hm
            rw [hoff] at hj
            obtain ⟨k2, e1, e2, e3, e4⟩ := cut_far hok hb hro hcl hμ (o + len * i.size) hj hm
            exact ⟨k2, e1, e2, by omega⟩
          have hval : ∀ (j : Nat) (y : AV), (olds ++ xs)[j]? = some y → ∃ Y, Cs'[d + o + j]? = some Y ∧ VR E y Y := by
            intro j y hj
            rw [g3]
            rw [List.getElem?_append] at hj
            have hol := hO.length
            split at hj
            · rename_i hjl
              rw [if_neg (by omega)]
              obtain ⟨Y, hY, hv⟩ := hO.get j y hj
              refine ⟨Y, ?_, hv⟩
              have := hOc j Y hY
              simpa [World.cell?, b1] using this
            · rename_i hjl
              obtain ⟨Y, hY, hv⟩ := hX.get _ y hj
              have hlt2 := (List.getElem?_eq_some_iff.1 hY).1
              refine ⟨Y, ?_, hv⟩
              rw [if_pos (by omega), show d + o + j - (d + o + len * i.size) = j - olds.length by omega]
              exact hY
          have hok' := hok.fork (w2 := w.setCells B (d + o + len * i.size) Xs) hobs hnew hgo.size hkcl hcl (B := B) (d := d + o) (fz := fz) (Cs := Cs') (e := e) (by rw [← hel]; exact g1) hN (k.base + o) (olds ++ xs) hval
            (fun r h1 h2 => by have := hfz r h1 h2; omega) hsep
          rw [← hH'] at hok'
          refine ⟨_, _, _, hrun, hok', hgo.ext (hok.fr H.nxt (Nat.le_refl _)) (.inl ⟨hN, b, d, S, hμ⟩), ?_⟩
          rw [hr']
          refine .slc _ 0 _ _ i.size _ B (d + o) _ _ _ (Env.ext_at _ _ _) ?_ ?_ (.inl rfl) (by rw [g2, b2]; exact hSz)
          · rw [ite'_if]; split <;> omega
          · intro hx2
            simp only [Bool.and_eq_true, Nat.ble_eq] at hx2
            rw [ite'_if, if_pos (by rw [Nat.ble_eq]; exact hx2.2)]
            exact hex hx2.1
  · cases h
end
end Go.AS
