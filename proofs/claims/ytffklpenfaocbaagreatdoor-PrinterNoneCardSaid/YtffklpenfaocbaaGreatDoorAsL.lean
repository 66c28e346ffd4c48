/-
  Reads: conversions, maps.
-/
import Derived.Test.YtffklpenfaocbaaGreatDoorAsK
import Derived.Laws.BytesArg
import Derived.Maps.Keyed
set_option linter.unusedVariables false
set_option linter.unusedSimpArgs false
namespace Go.AS
open Go.RowKit

section
variable {P : Program} {E : Env}

theorem bytes_string {w : World} {src e : TypeId} (hs : P.underlying src = some (.slice e)) (he : P.underlying e = some (.int .u8)) {dst : TypeId} (hd : P.underlying dst = some .string)
    {B D n cp : Nat} {us : List UInt8} (hn : us.length = n) (hc : ∀ (j : Nat) (X : Value), (us.map fun u => Value.int .u8 u.toNat)[j]? = some X → w.cell? ⟨B, D + j, none⟩ = some X) :
    (convert src dst (.slice (some ⟨B, D, none⟩) n cp)).run P w = .ok (.string ⟨us.toArray⟩) w := by
  have := run_convert_bytes_arg (P := P) w src e hs he B D n cp (us.map fun u => (u.toNat : Int)) (by simpa using hn) (fun i hi => by
    refine hc i _ ?_
    have hl : i < us.length := by omega
    simp [List.getElem?_eq_getElem hl, List.getD_eq_getElem?_getD]) dst hd
  rw [this]
  congr 2
  unfold strOfNums
  congr 2
  rw [List.map_map]
  conv => rhs; rw [← List.map_id us]
  apply List.map_congr_left
  intro u _
  simp

theorem conv_sound {H : HP} {M : Nat → Option Ob} {C : Nat → Option Cls} {N0 : Nat} {w : World} (hr : HR E M C N0 w) {src dst : TypeId} {x v : AV} {X : Value} (hx : VR E x X)
    (hM : ∀ b ob, (∃ z, E.μ b = some z) → H.obs.get b = some ob → M b = some ob) (h : convA P src dst x H = some v) : ∃ V, (convert src dst X).run P w = .ok V w ∧ VR E v V := by
  simp only [convA, bnd_eq] at h
  obtain ⟨ds, hs, dd, hd, h⟩ := h
  cases hx <;> simp only [reduceCtorEq] at h
  case int k n =>
    unfold intConv at h
    split at h
    · rename_i k'
      simp only [Option.some.injEq] at h
      subst h
      exact ⟨_, by simp [convert, run_underlying hs, run_underlying hd, Conv.intToInt], .int _ _⟩
    · cases h
  case str s b hb =>
    unfold strConv at h
    split at h
    · simp only [bnd_eq, Option.some.injEq] at h
      obtain ⟨s', rfl, rfl⟩ := h
      exact ⟨.string b, by simp [convert, run_underlying hs, run_underlying hd], .str _ _ hb⟩
    · cases h
  case nils =>
    simp only [tst_eq] at h
    obtain ⟨h1, h⟩ := h
    unfold isByteSlice at h1
    split at h1
    · rename_i e
      split at h1
      · rename_i he
        unfold strConv at h
        split at h
        · simp only [bnd_eq, Option.some.injEq] at h
          obtain ⟨s', rfl, rfl⟩ := h
          exact ⟨_, run_convert_bytes_nil w src e hs he 0 0 dst hd, .str _ _ rfl⟩
        · cases h
      · cases h1
    · cases h1
  case slc b o n cp sz ex B d S D c' hμ hc hex hD hS =>
    simp only [tst_eq] at h
    obtain ⟨h1, h⟩ := h
    unfold isByteSlice at h1
    split at h1
    · rename_i e
      split at h1
      · rename_i he
        unfold strConv at h
        split at h
        · simp only [bnd_eq, Option.some.injEq] at h
          obtain ⟨s', ⟨l, hl, hb⟩, rfl⟩ := h
          obtain ⟨Xs, hX, hlen, hcell⟩ := hr.rd hl (fun ob hob => hM b ob ⟨_, hμ⟩ hob) hμ
          obtain ⟨us, hu1, hu2⟩ := bytesOf_sound hX hb
          subst hu2
          have hul : us.length = n := by simpa using hlen
          refine ⟨.string ⟨us.toArray⟩, ?_, .str _ _ (by simpa using hu1)⟩
          rcases hD with hD | ⟨hn0, hc0⟩
          · subst hD
            exact bytes_string hs he hd hul hcell
          · have hu0 : us = [] := List.eq_nil_of_length_eq_zero (by omega)
            subst hu0
            exact bytes_string hs he hd hul (fun j X hj => by simp at hj)
        · cases h
      · cases h1
    · cases h1
  case ptr b o B d S hμ =>
    unfold toUnsafe at h
    split at h
    · rename_i t
      simp only [bnd_eq, tst_eq, Option.some.injEq] at h
      obtain ⟨n, hn, hpos, l, hl, rfl⟩ := h
      obtain ⟨Xs, hX, hlen, hcell⟩ := hr.rd hl (fun ob hob => hM b ob ⟨_, hμ⟩ hob) hμ
      have hpos' : 0 < n := by
        have : Nat.ble (Nat.succ 0) n = true := hpos
        rw [Nat.ble_eq] at this; exact this
      match Xs, hlen with
      | [X], _ =>
        have hc := hcell 0 X rfl
        simp only [Nat.add_zero, World.cell?] at hc
        cases ho : w.heap[B]? with
        | none => rw [ho] at hc; cases hc
        | some ob =>
          cases ob <;> rw [ho] at hc <;> simp only [reduceCtorEq] at hc
          rename_i Cs el fz
          have hlt := (Array.getElem?_eq_some_iff.1 hc).1
          have hsh : w.shape? B = some (el, Cs.size) := by simp [World.shape?, ho]
          refine ⟨_, ?_, .ptr b o B d S hμ⟩
          simp [convert, run_underlying hs, run_underlying hd, Conv.unsafePointer, Conv.seenAt, viewAt, cellsIn, hsh, szOf_run hn, show ¬ n = 0 by omega, show ¬ Cs.size ≤ d + o by omega]
    · rename_i u
      simp only [bnd_eq, tst_eq, Option.some.injEq] at h
      obtain ⟨n, hn, k, hk, m, hm, h1, rfl⟩ := h
      simp only [Bool.and_eq_true] at h1
      obtain ⟨hpos, hlies⟩ := h1
      unfold HP.blk at hk
      simp only [bnd_eq] at hk
      obtain ⟨ob, hob, hk⟩ := hk
      cases ob with
      | mp _ => cases hk
      | cells k' =>
        cases hk
        obtain ⟨B', d', S', hμ', hb⟩ := hr.obj b _ (hM b _ ⟨_, hμ⟩ hob)
        rw [hμ] at hμ'; cases hμ'
        obtain ⟨⟨Cs, fz, h1, h2, h3, h4⟩, h5, -⟩ := hb
        obtain ⟨e1, e2⟩ := h5 m hm
        subst e2
        have hsh : w.shape? B = some (k.el, m) := by simp [World.shape?, h1, h2, e1]
        refine ⟨_, ?_, .ptr b o B 0 S hμ⟩
        have hv : (variablesAt ⟨B, o, none⟩ u 1).run P w = .ok true w := by
          simp [variablesAt, hsh, hlies]
        simp [convert, run_underlying hs, run_underlying hd, Conv.unsafePointer, Conv.seenAt, viewAt, hsh, szOf_run hn, hv]
    · cases h

theorem sameNow_of {d : Nat} {t : TypeId} {x y : AV} {X Y : Value} {b b' : Bool} {dd : TypeDesc} (hd : P.underlying t = some dd) (hx : VR E x X) (hy : VR E y Y) (h : aEq P d t x y = some b) (hs : Instr.sameNow dd X Y = some b') : b' = b := by
  have h1 := aEq_sound d t x y X Y b hx hy h d (Nat.le_refl _) (default : World)
  cases d with
  | zero => simp [aEq] at h
  | succ d =>
    unfold Instr.sameNow at hs
    split at hs
    · split at hs
      · rename_i hk
        subst hk
        simp only [Option.some.injEq] at hs
        simp [Op.equalIn, run_underlying hd] at h1
        rw [← hs, ← h1]
      · cases hs
    · simp only [Option.some.injEq] at hs
      simp [Op.equalIn, run_underlying hd] at h1
      rw [← hs, ← h1]
    · simp only [Option.some.injEq] at hs
      simp [Op.equalIn, run_underlying hd] at h1
      rw [← hs, ← h1]
    · cases hs

/-- What a search among entries comes to. -/
def FoundR (E : Env) : Option (Nat × AV) → Option (Nat × Value) → Prop
  | none, none => True
  | some (i, v), some (j, V) => i = j ∧ VR E v V
  | _, _ => False

theorem findAsking_sound {kt : TypeId} {k : AV} {K : Value} (hk : VR E k K) (w : World) : ∀ {es : List (AV × AV)} {es' : List MapEntry} {i : Nat} {r : Option (Nat × AV)}, EntsR E es es' → keyEq P kt k es i = some r →
    ∃ R, (Instr.findAsking kt K es' i).run P w = .ok R w ∧ FoundR E r R
  | [], [], i, r, _, h => by
    simp only [keyEq, Option.some.injEq] at h
    subst h
    exact ⟨none, rfl, trivial⟩
  | (k', v) :: es, e :: es', i, r, ⟨h1, h2, h3⟩, h => by
    unfold keyEq at h
    split at h
    · rename_i hq
      simp only [Option.some.injEq] at h
      subst h
      have := aEq_sound 40 kt k k' K e.key true hk h1 hq Op.maxDepth (by simp [Op.maxDepth]) w
      exact ⟨some (i, e.val), by simp [Instr.findAsking, Op.equal, this], rfl, h2⟩
    · rename_i hq
      have := aEq_sound 40 kt k k' K e.key false hk h1 hq Op.maxDepth (by simp [Op.maxDepth]) w
      obtain ⟨R, hR, hf⟩ := findAsking_sound hk w h3 h
      exact ⟨R, by simp [Instr.findAsking, Op.equal, this, hR], hf⟩
    · cases h

theorem findNow_sound {kt : TypeId} {k : AV} {K : Value} {dd : TypeDesc} (hd : P.underlying kt = some dd) (hk : VR E k K) : ∀ {es : List (AV × AV)} {es' : List MapEntry} {i : Nat} {r : Option (Nat × AV)} {R : Option (Nat × Value)}, EntsR E es es' →
    keyEq P kt k es i = some r → Instr.findNow dd K es' i = some R → FoundR E r R
  | [], [], i, r, R, _, h, hn => by
    simp only [keyEq, Option.some.injEq] at h
    simp only [Instr.findNow, Option.some.injEq] at hn
    subst h; subst hn
    trivial
  | (k', v) :: es, e :: es', i, r, R, ⟨h1, h2, h3⟩, h, hn => by
    simp only [Instr.findNow] at hn
    unfold keyEq at h
    split at hn
    · rename_i hs
      simp only [Option.some.injEq] at hn
      subst hn
      split at h
      · simp only [Option.some.injEq] at h
        subst h
        exact ⟨rfl, h2⟩
      · rename_i hq
        exact absurd (sameNow_of hd hk h1 hq hs) (by simp)
      · cases h
    · rename_i hs
      split at h
      · rename_i hq
        exact absurd (sameNow_of hd hk h1 hq hs) (by simp)
      · exact findNow_sound hd hk h3 h hn
      · cases h
    · cases hn

theorem findKey_sound {kt : TypeId} {k : AV} {K : Value} {dd : TypeDesc} (hd : P.underlying kt = some dd) (hk : VR E k K) (w : World) {es : List (AV × AV)} {es' : List MapEntry} {r : Option (Nat × AV)} (he : EntsR E es es')
    (h : keyEq P kt k es 0 = some r) : ∃ R, (Instr.findKey kt K es').run P w = .ok R w ∧ FoundR E r R := by
  unfold Instr.findKey
  simp only [Sem.run_bind, run_underlying hd, Result.andThen_ok]
  cases hn : Instr.findNow dd K es' 0 with
  | some R => exact ⟨R, rfl, findNow_sound hd hk he h hn⟩
  | none => exact findAsking_sound hk w he h

theorem checkKey_run {kt : TypeId} {k : AV} (K : Value) (e : Bool) (h : keyFine P kt k = true) (w : World) : (Instr.checkKey e 10000 kt K).run P w = .ok () w := by
  unfold keyFine at h
  split at h <;> try cases h
  rename_i d n1 n2 n3 hd
  rw [Instr.checkKey.eq_def]
  simp only [Sem.run_bind, run_underlying hd, Result.andThen_ok]
  cases d <;> first
    | exact absurd rfl (n1 _)
    | exact absurd rfl (n2 _ _)
    | exact absurd rfl (n3 _)
    | rfl
    | (cases K <;> rfl)

theorem mapD_eq {d : TypeDesc} {q : TypeId × TypeId} (h : mapD d = some q) : d = .map q.1 q.2 := by
  cases d <;> simp only [mapD, reduceCtorEq, Option.some.injEq] at h
  subst h; rfl

/-- What is known of the blocks that this environment reaches. -/
def Agree (E : Env) (H : HP) (M : Nat → Option Ob) : Prop := ∀ b ob, (∃ z, E.μ b = some z) → H.obs.get b = some ob → M b = some ob

theorem map_obj {H : HP} {M : Nat → Option Ob} {C : Nat → Option Cls} {N0 : Nat} {w : World} (hr : HR E M C N0 w) (hM : Agree E H M) {r B d S : Nat} (hμ : E.μ r = some (B, d, S)) {ob : Ob} {es : List (AV × AV)} (ho : H.obs.get r = some ob)
    (he : ob.ents = some es) : N0 ≤ B ∧ ∃ es' clk, w.heap[B]? = some (.map es' clk) ∧ EntsR E es es'.toList := by
  cases ob with
  | cells _ => cases he
  | mp es0 =>
    cases he
    obtain ⟨B', d', S', hμ', hb⟩ := hr.obj r _ (hM r _ ⟨_, hμ⟩ ho)
    rw [hμ] at hμ'; cases hμ'
    exact hb

theorem lookup_sound {H : HP} {M : Nat → Option Ob} {C : Nat → Option Cls} {N0 : Nat} {w : World} (hr : HR E M C N0 w) (hM : Agree E H M) {t : TypeId} {ok : Bool} {k x v : AV} {K X : Value} (hk : VR E k K) (hx : VR E x X)
    (h : lookupA P H t ok k x = some v) : ∃ V, (Instr.lookup t X K ok).run P w = .ok V w ∧ VR E v V := by
  unfold lookupA at h
  split at h
  · rename_i r
    simp only [bnd_eq, tst_eq] at h
    obtain ⟨dd, hd, q, hq, hf, ob, hob, es, hes, f, hfd, hl⟩ := h
    have := mapD_eq hq; subst this
    cases hx
    rename_i B d S hμ
    obtain ⟨hB, es', clk, hw, hE⟩ := map_obj hr hM hμ hob hes
    unfold keyFine at hf
    cases hu : P.underlying q.1 with
    | none => rw [hu] at hf; cases hf
    | some kd =>
    obtain ⟨R, hR, hFR⟩ := findKey_sound hu hk w hE hfd
    have hck := checkKey_run (P := P) (k := k) K es'.isEmpty (kt := q.1) (by unfold keyFine; exact hf) w
    have hg : (getObj B).run P w = .ok (.map es' clk) w := MapKept.run_getObj_map hw
    cases f with
    | none =>
      cases R with
      | some _ => exact hFR.elim
      | none =>
        simp only [lookupR, bnd_eq, Option.some.injEq] at hl
        obtain ⟨z, hz, rfl⟩ := hl
        obtain ⟨Z, hZ, hzr, -⟩ := zeroOf_run (E := E) hz
        refine ⟨if ok then .tuple #[Z, .bool false] else Z, by simp [Instr.lookup, run_underlying hd, hg, hck, hR, hzr], ?_⟩
        rw [ite'_if]
        cases ok with
        | true => exact .tup _ _ (.cons _ _ _ _ hZ (.cons _ _ _ _ (.bool _) .nil))
        | false => exact hZ
    | some iv =>
      obtain ⟨i, v0⟩ := iv
      cases R with
      | none => exact hFR.elim
      | some jV =>
        obtain ⟨j, V0⟩ := jV
        simp only [lookupR, Option.some.injEq] at hl
        subst hl
        refine ⟨if ok then .tuple #[V0, .bool true] else V0, by simp [Instr.lookup, run_underlying hd, hg, hck, hR], ?_⟩
        rw [ite'_if]
        cases ok with
        | true => exact .tup _ _ (.cons _ _ _ _ hFR.2 (.cons _ _ _ _ (.bool _) .nil))
        | false => exact hFR.2
  · cases h

theorem opRead_sound {c : Cx} {T : TM} {a : Act} (hT : TR E T a) (hG : GL c E) {H : HP} {M : Nat → Option Ob} {C : Nat → Option Cls} {N0 : Nat} {w : World} (hr : HR E M C N0 w) (hM : Agree E H M) {o : Oper} {v : AV} (h : opRead c T H o.op = some v) :
    Yields c.P E a o w v := by
  obtain ⟨dst, op, type, pos, after, guard⟩ := o
  unfold Yields
  cases op <;> simp only [opRead, reduceCtorEq] at h
  case load t x =>
    simp only [bnd_eq] at h
    obtain ⟨u, hu, h⟩ := h
    have hx := ev_sound hT hG hu
    refine lift_value ?_
    unfold loadA at h
    split at h
    · generalize a.eval x = X at hx
      cases hx
      rename_i B d S hμ
      obtain ⟨V, hV, hv⟩ := loadVar_sound hr h (fun ob hob => hM _ _ ⟨_, hμ⟩ hob) hμ
      exact ⟨V, by simpa [Instr.loadAt, Instr.sureAddr] using hV, hv⟩
    · cases h
  case lookup t x i ok =>
    simp only [bnd_eq] at h
    obtain ⟨k, hk, u, hu, h⟩ := h
    exact lift_value (lookup_sound hr hM (ev_sound hT hG hk) (ev_sound hT hG hu) h)
  case convert src dst x =>
    simp only [bnd_eq] at h
    obtain ⟨u, hu, h⟩ := h
    exact lift_value (conv_sound hr (ev_sound hT hG hu) (fun b ob h1 h2 => hM b ob h1 h2) h)
end
end Go.AS
