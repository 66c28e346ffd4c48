/-
  Every pure operation yields what the evaluator says; reads; allocations.
-/
import Derived.Test.YtffklpenfaocbaaGreatDoorAsJ
set_option linter.unusedVariables false
set_option linter.unusedSimpArgs false
namespace Go.AS
open Go.RowKit

section
variable {c : Cx} {E : Env} {T : TM} {a : Act}

theorem lift_value {P : Program} {w : World} {v : AV} {s : Sem Value} (h : ∃ V, s.run P w = .ok V w ∧ VR E v V) :
    ∃ V, (do pure (Next.value (← s)) : Sem Next).run P w = .ok (.value V) w ∧ VR E v V := by
  obtain ⟨V, hV, hv⟩ := h
  exact ⟨V, by rw [Sem.run_bind, hV]; rfl, hv⟩

theorem parts_map (parts : Array (Nat × Operand)) : (parts.toList.map fun p => (p.1, a.eval p.2)).toArray = parts.map fun (i, x) => (i, a.eval x) := by
  obtain ⟨l⟩ := parts
  simp

theorem opPure_sound (hT : TR E T a) (hG : GL c E) {o : Oper} {v : AV} (h : opPure c T o.op = some v) (w : World) : Yields c.P E a o w v := by
  obtain ⟨dst, op, type, pos, after, guard⟩ := o
  unfold Yields
  cases op <;> simp only [opPure, reduceCtorEq] at h
  case move x => exact ⟨_, rfl, ev_sound hT hG h⟩
  case assign x => exact ⟨_, rfl, ev_sound hT hG h⟩
  case pick q x y =>
    simp only [bnd_eq] at h
    obtain ⟨u, hu, h⟩ := h
    have hq := ev_sound hT hG hu
    unfold pickA at h
    split at h
    · rename_i t
      generalize hQ : a.eval q = Q at hq
      cases hq
      rw [ite'_if] at h
      cases t with
      | true => exact ⟨a.eval x, by simp [execOp, hQ, asBool], ev_sound hT hG h⟩
      | false => exact ⟨a.eval y, by simp [execOp, hQ, asBool], ev_sound hT hG h⟩
    · cases h
  case build t parts =>
    simp only [bnd_eq] at h
    obtain ⟨z, hz, ps, hps, d, hd, h⟩ := h
    refine lift_value ?_
    rw [← parts_map]
    exact build_sound hz (evParts_sound hT hG hps) hd h w
  case nilCheck x =>
    simp only [bnd_eq] at h
    obtain ⟨u, hu, h⟩ := h
    obtain ⟨hv, n1, n2, n3, n4⟩ := nilCheck_sound (ev_sound hT hG hu) h
    refine ⟨a.eval x, ?_, hv⟩
    simp only [execOp]
    generalize a.eval x = X at *
    cases X with
    | pointer p => cases p with
      | none => exact absurd rfl n1
      | some p => rfl
    | nilIface => exact absurd rfl n2
    | nilFunc => exact absurd rfl n3
    | func fn f cp => cases fn <;> first | rfl | exact absurd rfl (n4 _ _ _)
    | _ => rfl
  case binOp op t x y _ =>
    simp only [bnd_eq] at h
    obtain ⟨u, hu, u', hu', h⟩ := h
    exact lift_value (binOp_sound x y (ev_sound hT hG hu) (ev_sound hT hG hu') h w)
  case unOp op _ x =>
    simp only [bnd_eq] at h
    obtain ⟨u, hu, h⟩ := h
    exact lift_value (un_sound (ev_sound hT hG hu) h w)
  case makeInterface t x =>
    simp only [bnd_eq] at h
    obtain ⟨u, hu, d, hd, h⟩ := h
    exact lift_value (iface_sound hd (ev_sound hT hG hu) h w)
  case makeFunc f first captured =>
    simp only [bnd_eq, Option.some.injEq] at h
    obtain ⟨u, hu, u', hu', rfl⟩ := h
    exact lift_value ⟨_, rfl, .fn _ _ _ _ _ (by simpa using evs_sound hT hG hu) (by simpa using evs_sound hT hG hu')⟩
  case slice t x lo hi mx =>
    simp only [bnd_eq, tst_eq] at h
    obtain ⟨u, hu, l, hl, h', hh, m, hm, hmh, h⟩ := h
    refine lift_value (slice_sound (ev_sound hT hG hu) (BR_of hT hG hl) (BR_of hT hG hh) (BR_of hT hG hm) (fun e => ?_) h w)
    rcases Bool.or_eq_true_iff.1 hmh with h1 | h1
    · cases m <;> simp_all
    · exact h1
  case fieldAddr s x f =>
    simp only [bnd_eq] at h
    obtain ⟨u, hu, h⟩ := h
    exact lift_value (fieldAddr_sound (ev_sound hT hG hu) h w)
  case field t x f =>
    simp only [bnd_eq] at h
    obtain ⟨u, hu, h⟩ := h
    exact lift_value (field_sound (ev_sound hT hG hu) h w)
  case indexAddr t x i =>
    simp only [bnd_eq] at h
    obtain ⟨j, hj, n, hn, u, hu, h⟩ := h
    obtain ⟨k, hk⟩ := natOf_sound (ev_sound hT hG hj) hn
    refine lift_value ?_
    rw [hk]
    exact indexAddr_sound (ev_sound hT hG hu) h w
  case index t x i =>
    simp only [bnd_eq] at h
    obtain ⟨j, hj, n, hn, u, hu, h⟩ := h
    obtain ⟨k, hk⟩ := natOf_sound (ev_sound hT hG hj) hn
    refine lift_value ?_
    rw [hk]
    exact index_sound (ev_sound hT hG hu) h w
  case extract x i =>
    simp only [bnd_eq] at h
    obtain ⟨u, hu, h⟩ := h
    exact lift_value (extract_sound (ev_sound hT hG hu) h w)
  case typeAssert x xt asserted ok =>
    simp only [bnd_eq] at h
    obtain ⟨u, hu, h⟩ := h
    exact lift_value (typeAssert_sound (ev_sound hT hG hu) h w)
  case call q =>
    obtain ⟨callee, args, argTypes⟩ := q
    cases callee <;> simp only [callPure, reduceCtorEq] at h
    case builtin b =>
      simp only [bnd_eq] at h
      obtain ⟨vs, hvs, h⟩ := h
      simp only [execOp, resolve, invoke, pure_bind]
      exact builtinPure_sound (by simpa using evs_sound hT hG hvs) h w

/-! ### reads -/
theorem loadVar_sound {P : Program} {H : HP} {M : Nat → Option Ob} {C : Nat → Option Cls} {N0 : Nat} {w : World} (hr : HR E M C N0 w) {t : TypeId} {b o : Nat} {v : AV} (h : rdVar P H t b o = some v)
    (hM : ∀ ob, H.obs.get b = some ob → M b = some ob) {B d S : Nat} (hμ : E.μ b = some (B, d, S)) : ∃ V, (loadVar t ⟨B, d + o, none⟩).run P w = .ok V w ∧ VR E v V := by
  simp only [rdVar, bnd_eq] at h
  obtain ⟨ag, hag, h⟩ := h
  have hrun := isAg_run hag w
  cases ag with
  | true =>
    simp only [ite'_true, bnd_eq, Option.some.injEq] at h
    obtain ⟨n, hn, l, hl, rfl⟩ := h
    obtain ⟨Xs, hX, hlen, hc⟩ := hr.rd hl hM hμ
    refine ⟨.agg Xs.toArray, ?_, .agg _ _ (by simpa using hX)⟩
    have hl := run_loadCells_list (P := P) w ⟨B, d + o, none⟩ Xs (fun j X hj => by rw [Addr.add_any]; exact hc j X hj)
    rw [hlen] at hl
    simp [loadVar, hrun, szOf_run hn, hl]
  | false =>
    simp only [ite'_false, bnd_eq] at h
    obtain ⟨l, hl, h⟩ := h
    obtain ⟨Xs, hX, hlen, hc⟩ := hr.rd hl hM hμ
    unfold only at h
    split at h
    · simp only [Option.some.injEq] at h
      subst h
      obtain ⟨X, rfl, hx⟩ := hX.one
      have := hc 0 X rfl
      refine ⟨X, ?_, hx⟩
      simp only [Nat.add_zero] at this
      simp [loadVar, hrun, this]
    · cases h

theorem bytesOf_sound : ∀ {l : List AV} {Ls : List Value} {s : List Nat}, VRs E l Ls → bytesOf' l = some s → ∃ us : List UInt8, us.map UInt8.toNat = s ∧ Ls = us.map fun u => Value.int .u8 u.toNat
  | [], _, s, .nil, h => by
    have h' : some [] = some s := h
    cases h'; exact ⟨[], rfl, rfl⟩
  | x :: l, _, s, .cons _ X _ Xs hx hs, h => by
    have h' : (bnd (byteOf x) fun b => bnd (bytesOf' l) fun r => some (b :: r)) = some s := h
    simp only [bnd_eq, Option.some.injEq] at h'
    obtain ⟨b, hb, r, hr, rfl⟩ := h'
    obtain ⟨us, h1, h2⟩ := bytesOf_sound hs hr
    unfold byteOf at hb
    split at hb
    · rename_i n
      simp only [tst_eq, Option.some.injEq] at hb
      obtain ⟨hlt, rfl⟩ := hb
      have hlt' : n < 256 := by
        have : Nat.ble (Nat.succ n) 256 = true := hlt
        rw [Nat.ble_eq] at this; exact this
      cases hx
      refine ⟨UInt8.ofNat n :: us, ?_, ?_⟩
      · simp [h1, UInt8.toNat_ofNat_of_lt' (by simpa using hlt')]
      · simp only [List.map_cons, h2]
        congr 1
        simp [UInt8.toNat_ofNat_of_lt' (by simpa using hlt')]
    · cases hb
end
end Go.AS
