/-
  The pure operations together.
-/
import Derived.Test.YtffklpenfaocbaaGreatDoorAsH
set_option linter.unusedVariables false
set_option linter.unusedSimpArgs false
namespace Go.AS
open Go.RowKit

section
variable {P : Program} {E : Env}

theorem placesX_eq : ∀ {l : List Field} {r : List (Nat × Nat)}, placesX P l = some r → l.mapM (fun f => (P.info? f.type).map fun i => (f.offset, i.size)) = some r
  | [], r, h => by
    have h' : some [] = some r := h
    cases h'; rfl
  | f :: l, r, h => by
    have h' : (bnd (szOf P f.type) fun n => bnd (placesX P l) fun r => some ((f.offset, n) :: r)) = some r := h
    simp only [bnd_eq, szOf, Option.some.injEq] at h'
    obtain ⟨n, ⟨i, hi, rfl⟩, r', hr, rfl⟩ := h'
    simp [List.mapM_cons, hi, placesX_eq hr]

theorem build_sound {t : TypeId} {z v : AV} {ps : List (Nat × AV)} {Ps : List (Nat × Value)} {d : TypeDesc} (hz : zeroOf P t = some z) (hps : PRs E ps Ps) (hd : P.underlying t = some d)
    (h : buildD P z ps d = some v) (w : World) : ∃ V, (Instr.build t Ps.toArray).run P w = .ok V w ∧ VR E v V := by
  obtain ⟨Z, hZ, -, i, hi, hiz⟩ := zeroOf_run (E := E) hz
  unfold buildD at h
  have hfz : z.flat = true := by
    simp only [zeroOf, bnd_eq] at hz
    obtain ⟨i', hi', Z', hz', hv⟩ := hz
    unfold ofV at hv
    split at hv
    · simp only [bnd_eq, Option.some.injEq] at hv
      obtain ⟨l, hl, rfl⟩ := hv
      rfl
    · unfold ofCell at hv
      split at hv <;> simp only [Option.some.injEq, reduceCtorEq] at hv <;> subst hv <;> rfl
  have hcz := cells_sound hZ hfz
  split at h
  · rename_i fields
    simp only [bnd_eq, Option.some.injEq] at h
    obtain ⟨pl, hpl, l, hl, rfl⟩ := h
    obtain ⟨R, hR, hvR⟩ := fill_sound hps hcz hl
    refine ⟨.agg R, run_build w t _ R ?_, .agg _ _ hvR⟩
    unfold Program.built
    simp only [hi, hd, hiz, placesX_eq hpl]
    have e : (fun x => pl.toArray[x]?) = nthX pl := by funext x; rw [nthX_eq]; simp
    rw [e]; simpa using hR
  · rename_i n e
    simp only [bnd_eq, szOf, Option.some.injEq] at h
    obtain ⟨m, ⟨ie, hie, rfl⟩, l, hl, rfl⟩ := h
    obtain ⟨R, hR, hvR⟩ := fill_sound hps hcz hl
    refine ⟨.agg R, run_build w t _ R ?_, .agg _ _ hvR⟩
    unfold Program.built
    simp only [hi, hd, hiz, hie]
    exact hR
  · cases h

theorem fieldAddr_sound {s : TypeId} {f : Nat} {x v : AV} {X : Value} (hx : VR E x X) (h : fieldAddrA P s f x = some v) (w : World) : ∃ V, (Instr.fieldAt s X f).run P w = .ok V w ∧ VR E v V := by
  cases hx <;> simp only [fieldAddrA, reduceCtorEq] at h
  case ptr b o B d S hμ =>
    simp only [bnd_eq, tst_eq, nthX_eq, Option.some.injEq] at h
    obtain ⟨dd, hd, fields, hf, fd, hfd, n, hn, hn0, rfl⟩ := h
    cases dd <;> simp only [structD, reduceCtorEq, Option.some.injEq] at hf
    have hf := hf.symm
    subst hf
    have hn0' : 0 < n := by
      have : Nat.ble 1 n = true := hn0
      rw [Nat.ble_eq] at this; exact this
    refine ⟨.pointer (some ⟨B, d + (o + fd.offset), none⟩), ?_, .ptr b _ B d S hμ⟩
    have hfd' : fields[f]? = some fd := by simpa using hfd
    simp only [Instr.fieldAt, Sem.run_bind, run_underlying hd, Result.andThen_ok, hfd', Instr.sureAddr, Sem.run_pure, fieldPlace, szOf_run hn]
    rw [if_neg (by omega)]
    simp only [Sem.run_pure, Result.andThen_ok, Addr.add_any]
    rw [show d + o + fd.offset = d + (o + fd.offset) by omega]

theorem field_sound {t : TypeId} {f : Nat} {x v : AV} {X : Value} (hx : VR E x X) (h : fieldA P t f x = some v) (w : World) : ∃ V, (Instr.field t X f).run P w = .ok V w ∧ VR E v V := by
  cases hx <;> simp only [fieldA, reduceCtorEq] at h
  case agg cs Cs hc =>
    simp only [bnd_eq, nthX_eq] at h
    obtain ⟨dd, hd, fields, hf, fd, hfd, h⟩ := h
    cases dd <;> simp only [structD, reduceCtorEq, Option.some.injEq] at hf
    have hf := hf.symm
    subst hf
    obtain ⟨V, hV, hv⟩ := part_sound hc h w
    have hfd' : fields[f]? = some fd := by simpa using hfd
    exact ⟨V, by simp [Instr.field, run_underlying hd, hfd', asAgg, hV], hv⟩

theorem indexAddr_sound {t : TypeId} {n : Nat} {k : IntKind} {x v : AV} {X : Value} (hx : VR E x X) (h : indexAddrA P t n x = some v) (w : World) :
    ∃ V, (Instr.indexAt t X (.int k (n : Int))).run P w = .ok V w ∧ VR E v V := by
  cases hx <;> simp only [indexAddrA, reduceCtorEq] at h
  case ptr b o B d S hμ =>
    simp only [bnd_eq, tst_eq, Option.some.injEq] at h
    obtain ⟨dd, hd, ⟨len, e⟩, hf, sz, hsz, hn, rfl⟩ := h
    cases dd <;> simp only [arrayD, reduceCtorEq, Option.some.injEq] at hf
    cases hf
    have hn' : n < len := by
      have : Nat.ble (Nat.succ n) len = true := hn
      rw [Nat.ble_eq] at this; exact this
    refine ⟨.pointer (some ⟨B, d + (o + n * sz), none⟩), ?_, .ptr b _ B d S hμ⟩
    have hin : (0 : Int) ≤ n ∧ (n : Int) < len := ⟨by omega, by omega⟩
    simp only [Instr.indexAt, asIntOf, Sem.run_bind, Sem.run_pure, Result.andThen_ok, run_underlying hd, Instr.sureAddr, Sem.run_map, Sem.run_ite, if_pos hin, szOf_run hsz, Addr.add_any, Int.toNat_natCast]
    first | (rw [show d + o + n * sz = d + (o + n * sz) by omega]; done) | (simp [hin, szOf_run hsz, Addr.add_any]; omega)
  case slc b o len cp sz' ex B d S D c' hμ hc hex hD hS =>
    simp only [bnd_eq, tst_eq, Option.some.injEq] at h
    obtain ⟨dd, hd, e, hf, sz, hsz, hn, rfl⟩ := h
    cases dd <;> simp only [sliceD, reduceCtorEq, Option.some.injEq] at hf
    cases hf
    have hn' : n < len := by
      have : Nat.ble (Nat.succ n) len = true := hn
      rw [Nat.ble_eq] at this; exact this
    have hD' : D = d + o := by rcases hD with h | ⟨h, -⟩ <;> omega
    subst hD'
    refine ⟨.pointer (some ⟨B, d + (o + n * sz), none⟩), ?_, .ptr b _ B d S hμ⟩
    have hin : (0 : Int) ≤ n ∧ (n : Int) < len := ⟨by omega, by omega⟩
    simp only [Instr.indexAt, asIntOf, Sem.run_bind, Sem.run_pure, Result.andThen_ok, run_underlying hd, Sem.run_ite, if_pos hin, szOf_run hsz, Addr.add_any, Int.toNat_natCast]
    first | (rw [show d + o + n * sz = d + (o + n * sz) by omega]; done) | (simp [hin, szOf_run hsz, Addr.add_any]; omega)

theorem index_sound {t : TypeId} {n : Nat} {k : IntKind} {x v : AV} {X : Value} (hx : VR E x X) (h : indexA P t n x = some v) (w : World) :
    ∃ V, (Instr.index t X (.int k (n : Int))).run P w = .ok V w ∧ VR E v V := by
  cases hx <;> simp only [indexA, reduceCtorEq] at h
  case agg cs Cs hc =>
    simp only [bnd_eq, tst_eq] at h
    obtain ⟨dd, hd, ⟨len, e⟩, hf, sz, hsz, hn, h⟩ := h
    cases dd <;> simp only [arrayD, reduceCtorEq, Option.some.injEq] at hf
    cases hf
    have hn' : n < len := by
      have : Nat.ble (Nat.succ n) len = true := hn
      rw [Nat.ble_eq] at this; exact this
    obtain ⟨V, hV, hv⟩ := part_sound hc h w
    refine ⟨V, ?_, hv⟩
    have hV' : (_root_.Go.part e Cs (n * sz)).run P w = .ok V w := hV
    have hin : (0 : Int) ≤ n ∧ (n : Int) < len := ⟨by omega, by omega⟩
    simp only [Instr.index, asIntOf, Sem.run_bind, Sem.run_pure, Result.andThen_ok, run_underlying hd, Sem.run_ite, if_pos hin, szOf_run hsz, Int.toNat_natCast, hV']
  case str s b hb =>
    simp only [bnd_eq, tst_eq, nthX_eq, Option.some.injEq] at h
    obtain ⟨dd, hd, hs, y, hy, rfl⟩ := h
    cases dd <;> simp only [stringD, Bool.false_eq_true] at hs
    subst hb
    rw [List.getElem?_map] at hy
    simp only [Option.map_eq_some_iff] at hy
    obtain ⟨u, hu, rfl⟩ := hy
    have hlt : n < b.size := by
      have := (List.getElem?_eq_some_iff.1 hu).1
      rw [Array.length_toList] at this; exact this
    have hu' : b[n]? = some u := by
      rw [getElem?_pos b n hlt]
      have h1 : b.data[n]? = some u := by simpa using hu
      have h2 := (Array.getElem?_eq_some_iff.1 h1).2
      rw [← h2]; rfl
    refine ⟨.int .u8 u.toNat, ?_, .int _ _⟩
    simp [Instr.index, asIntOf, run_underlying hd, hu']

theorem extract_sound {i : Nat} {x v : AV} {X : Value} (hx : VR E x X) (h : extractA i x = some v) (w : World) : ∃ V, (Instr.extract X i).run P w = .ok V w ∧ VR E v V := by
  cases hx <;> simp only [extractA, reduceCtorEq] at h
  case tup cs Cs hc =>
    rw [nthX_eq] at h
    obtain ⟨V, hV, hv⟩ := hc.get i v h
    have hV' : Cs[i]? = some V := by simpa using hV
    exact ⟨V, by simp [Instr.extract, hV'], hv⟩

theorem okFails_sound {t : TypeId} {ok : Bool} {v : AV} (h : okFails P t ok = some v) : ok = true ∧ ∃ Z, (∀ w, (zeroValue t).run P w = .ok Z w) ∧ VR E v (.tuple #[Z, .bool false]) := by
  simp only [okFails, tst_eq, bnd_eq, Option.some.injEq] at h
  obtain ⟨h1, z, hz, rfl⟩ := h
  obtain ⟨Z, hZ, hr, -⟩ := zeroOf_run (E := E) hz
  exact ⟨h1, Z, hr, .tup _ _ (.cons _ _ _ _ hZ (.cons _ _ _ _ (.bool _) .nil))⟩

theorem typeAssert_sound {xt asserted : TypeId} {ok : Bool} {x v : AV} {X : Value} (hx : VR E x X) (h : typeAssertA P asserted ok x = some v) (w : World) :
    ∃ V, (Instr.typeAssert X xt asserted ok).run P w = .ok V w ∧ VR E v V := by
  have holds : ∀ {u : AV} {U : Value}, VR E u U → holdsA ok u = some v → ∃ V, (if ok = true then Value.tuple #[U, .bool true] else U) = V ∧ VR E v V := by
    intro u U hu hh
    simp only [holdsA, Option.some.injEq] at hh
    subst hh
    cases ok with
    | true => exact ⟨_, rfl, .tup _ _ (.cons _ _ _ _ hu (.cons _ _ _ _ (.bool _) .nil))⟩
    | false => exact ⟨_, rfl, hu⟩
  cases hx <;> simp only [typeAssertA, reduceCtorEq] at h
  case nili =>
    simp only [bnd_eq] at h
    obtain ⟨d, hd, h⟩ := h
    obtain ⟨rfl, Z, hZ, hv⟩ := okFails_sound (E := E) h
    refine ⟨_, ?_, hv⟩
    cases d <;> simp [Instr.typeAssert, run_underlying hd, hZ]
  case ifc t u U hu =>
    simp only [bnd_eq] at h
    obtain ⟨d, hd, h⟩ := h
    have plain : (∀ m, d ≠ .interface m) → ite' (Nat.beq t asserted) (holdsA ok u) (okFails P asserted ok) = some v → ∃ V, (Instr.typeAssert (.iface t U) xt asserted ok).run P w = .ok V w ∧ VR E v V := by
      intro hne hh
      rw [ite'_beq] at hh
      split at hh
      · rename_i e; subst e
        obtain ⟨V, hV, hv⟩ := holds hu hh
        refine ⟨V, ?_, hv⟩
        subst hV
        cases d <;> first | exact absurd rfl (hne _) | simp [Instr.typeAssert, run_underlying hd]
      · rename_i e
        obtain ⟨rfl, Z, hZ, hv⟩ := okFails_sound (E := E) hh
        refine ⟨_, ?_, hv⟩
        cases d <;> first | exact absurd rfl (hne _) | simp [Instr.typeAssert, run_underlying hd, hZ, e]
    cases d
    case interface want =>
      simp only [assertD, bnd_eq] at h
      obtain ⟨info, hi, h⟩ := h
      unfold assertI at h
      split at h
      · rename_i hm
        obtain ⟨V, hV, hv⟩ := holds (.ifc t u U hu) h
        refine ⟨V, ?_, hv⟩
        subst hV
        simp [Instr.typeAssert, run_underlying hd, typeInfo, hi, hm]
      · rename_i m hm
        obtain ⟨rfl, Z, hZ, hv⟩ := okFails_sound (E := E) h
        refine ⟨_, ?_, hv⟩
        simp [Instr.typeAssert, run_underlying hd, typeInfo, hi, hm, hZ]
    all_goals exact plain (fun m => by simp) h
end
end Go.AS
