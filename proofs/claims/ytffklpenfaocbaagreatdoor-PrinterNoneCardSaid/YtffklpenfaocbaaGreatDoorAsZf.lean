/-
  The calls without a Go body.
-/
import Derived.Test.YtffklpenfaocbaaGreatDoorAsZe
import Derived.Laws.Externs
import Derived.Lib.MakeNoZero
import Derived.Room.MakeNoZero
set_option linter.unusedVariables false
set_option linter.unusedSimpArgs false
namespace Go.AS
open Go.RowKit

/-- The function has no body and is answered by this entry. -/
def XRow (P : Program) (f : FuncId) (e : Array Value → Sem Value) : Prop :=
  ∃ fn, P.funcs[f]? = some fn ∧ (fn.name == "runtime.NumGoroutine") = false ∧ fn.body.isNone = true ∧ Extern.findNext fn = none ∧ Extern.find fn = some e

section
variable {P : Program} {E : Env} {N0 : Nat} {w : World}

theorem XRow.does {f : FuncId} {e : Array Value → Sem Value} (h : XRow P f e) {Args : Array Value} {H' : HP} {v : AV} {V : Value} {w' : World} {E' : Env} (hr : (e Args).run P w = .ok V w') (hk : OK E' H' N0 w') (hg : Goes E E' N0 w w') (hv : VR E' v V) :
    FnDoes P f Args E H' N0 w v := by
  obtain ⟨fn, h1, h2, h3, h4, h5⟩ := h
  refine .inl ⟨V, w', ?_, V, E', rfl, hk, hg, hv⟩
  rw [run_callFunc_extern h1 h2 h3 h4 h5, hr]
  rfl

/-- What the numbers of functions without a body must be. -/
def XOK (P : Program) (f : FuncId) : Xk → Prop
  | .noEscape => XRow P f Extern.AbiNoEscape.same
  | .indexByteString => XRow P f Extern.BytealgIndexByte.indexByte
  | .makeNoZero e => ∃ ps t, XRow P f (Extern.BytealgMakeNoZero.makeNoZero ps #[t]) ∧ P.underlying t = some (.slice e)
  | .valueOf => XRow P f (fun args => Extern.ReflectliteValue.unpack (args.getD 0 (.tuple #[])))
  | .vLen => XRow P f (Extern.ReflectliteValue.method (Extern.ReflectliteValue.valueError "reflectlite.Value.Len" 0) Extern.ReflectliteValue.len)
  | .swapper tbl => XRow P f (Extern.ReflectliteSwapper.swapper "internal/reflectlite" (Extern.ReflectliteValue.valueError "Swapper")) ∧ ∀ k g, tbl[k]? = some g → 1 ≤ k → P.funcs.findIdx? (·.name == "internal/reflectlite" ++ ".Swapper$" ++ toString k) = some g
  | .swap => ∃ b, XRow P f (Extern.ReflectliteSwapper.swap b)
  | .errorsAs .. => False

theorem VRs.twoA {x y : AV} {A : Array Value} (h : VRs E [x, y] A.toList) : ∃ X Y, A = #[X, Y] ∧ VR E x X ∧ VR E y Y := by
  obtain ⟨L⟩ := A
  cases h with
  | cons _ X _ Xs h1 h2 => cases h2 with
    | cons _ Y _ Ys h3 h4 => cases h4; exact ⟨X, Y, rfl, h1, h3⟩
theorem VRs.singleA {x : AV} {A : Array Value} (h : VRs E [x] A.toList) : ∃ X, A = #[X] ∧ VR E x X := by
  obtain ⟨L⟩ := A
  cases h with
  | cons _ X _ Xs h1 h2 => cases h2; exact ⟨X, rfl, h1⟩
theorem VRs.threeA {x y z : AV} {A : Array Value} (h : VRs E [x, y, z] A.toList) : ∃ X Y Z, A = #[X, Y, Z] ∧ VR E x X ∧ VR E y Y ∧ VR E z Z := by
  obtain ⟨L⟩ := A
  cases h with
  | cons _ X _ Xs h1 h2 => cases h2 with
    | cons _ Y _ Ys h3 h4 => cases h4 with
      | cons _ Z _ Zs h5 h6 => cases h6; exact ⟨X, Y, Z, rfl, h1, h3, h5⟩
theorem VRs.fourA {x y z u : AV} {A : Array Value} (h : VRs E [x, y, z, u] A.toList) : ∃ X Y Z U, A = #[X, Y, Z, U] ∧ VR E x X ∧ VR E y Y ∧ VR E z Z ∧ VR E u U := by
  obtain ⟨L⟩ := A
  cases h with
  | cons _ X _ Xs h1 h2 => cases h2 with
    | cons _ Y _ Ys h3 h4 => cases h4 with
      | cons _ Z _ Zs h5 h6 => cases h6 with
        | cons _ U _ Us h7 h8 => cases h8; exact ⟨X, Y, Z, U, rfl, h1, h3, h5, h7⟩

/-! ### the byte's place -/
theorem findByte_eq (b : Nat) (hb : b < 256) : ∀ (l : List UInt8) (k : Nat), findByte b (l.map UInt8.toNat) k = (match (List.range' 0 l.length).find? fun i => l[i]! == b.toUInt8 with | some i => ((i + k : Nat) : Int) | none => -1)
  | [], k => by simp [findByte]
  | x :: l, k => by
    have ih := findByte_eq b hb l (k + 1)
    have hx : Nat.beq x.toNat b = (x == b.toUInt8) := by
      rw [Bool.eq_iff_iff, Nat.beq_eq, beq_iff_eq]
      constructor
      · intro h; rw [← h]; simp
      · intro h; rw [h]; simp [UInt8.toNat_ofNat_of_lt' (by simpa using hb)]
    simp only [List.map_cons, findByte, hx, List.length_cons]
    rw [List.range'_succ, List.find?_cons]
    simp only [List.getElem!_cons_zero]
    cases hc : (x == b.toUInt8) with
    | true => simp
    | false =>
      simp only [cond_false, ih]
      have hr : List.range' (0 + 1) l.length = (List.range' 0 l.length).map (· + 1) := by
        apply List.ext_getElem
        · simp
        · intro i h1 h2
          simp
          omega
      rw [hr, List.find?_map]
      have hf : ((fun i => (x :: l)[i]! == b.toUInt8) ∘ fun x => x + 1) = fun i => l[i]! == b.toUInt8 := by
        funext i; simp
      rw [hf]
      cases (List.range' 0 l.length).find? fun i => l[i]! == b.toUInt8 with
      | none => rfl
      | some i => simp only [Option.map_some]; rw [show i + (k + 1) = i + 1 + k by omega]

theorem firstIdx_eq (s : ByteArray) (b : Nat) (hb : b < 256) : firstIdx s b.toUInt8 = findByte b (s.data.toList.map UInt8.toNat) 0 := by
  rw [findByte_eq b hb]
  unfold firstIdx
  rw [List.range_eq_range']
  have h1 : s.size = s.data.toList.length := by simp
  have h2 : (fun i : Nat => s[i]! == b.toUInt8) = fun i : Nat => s.data.toList[i]! == b.toUInt8 := by
    funext i
    have : s[i]! = s.data.toList[i]! := by
      by_cases hi : i < s.size
      · have hi' : i < s.data.size := hi
        rw [getElem!_pos s i hi, List.getElem!_eq_getElem?_getD, List.getElem?_eq_getElem (by simpa using hi')]
        simp; rfl
      · have hi' : ¬ i < s.data.size := hi
        rw [getElem!_neg s i hi, List.getElem!_eq_getElem?_getD, List.getElem?_eq_none (by simpa using hi')]
        rfl
    rw [this]
  rw [h1, h2]
  cases (List.range' 0 s.data.toList.length).find? fun i => s.data.toList[i]! == b.toUInt8 <;> simp

theorem rlm (z : Sem Value) (f : TypeId → Addr → Nat → Nat → Sem Value) (v : Value) :
    Extern.ReflectliteValue.method z f #[v] = (do match ← Extern.ReflectliteValue.parts v with | none => z | some (t, a, fl) => f t a fl (fl % 32)) := rfl

/-- A world that only grew. -/
structure Grown (w w' : World) : Prop where
  size : w.heap.size ≤ w'.heap.size
  old : ∀ B, B < w.heap.size → w'.heap[B]? = w.heap[B]?
  os : w'.os = w.os
  tape : w'.tape = w.tape
  output : w'.output = w.output

/-- errors.As, where the error's own type is the wanted one. -/
def AsHit (P : Program) (f : FuncId) (g hb : Nat) (rt et te tp : TypeId) : Prop :=
  (∃ fn, P.funcs[f]? = some fn ∧ (fn.name == "runtime.NumGoroutine") = false ∧ fn.body.isSome = true) ∧
  ∀ (e t : Addr) (old : Value) (w : World), w.cell? ⟨g, 0, none⟩ = some (.iface rt (.agg #[.pointer (some ⟨hb, et, none⟩)])) → w.cell? t = some old → w.frozen? t = false →
    Calls P f #[.iface te (.pointer (some e)), .iface tp (.pointer (some t))] w fun ev w' => ev = .returned (.bool true) ∧ ∃ w1, Grown w w1 ∧ w' = w1.setCell t (.pointer (some e))

def XOK' (P : Program) (f : FuncId) : Xk → Prop
  | .errorsAs g hb rt et te tp => AsHit P f g hb rt et te tp
  | k => XOK P f k

theorem OK.grown {H : HP} {w' : World} (h : OK E H N0 w) (hg : Grown w w') : OK E H N0 w' :=
  h.frame (fun i B d S hμ => hg.old B (h.bd i _ hμ)) hg.size
theorem Grown.goes {w' : World} (h : Grown w w') : Goes E E N0 w w' := ⟨.refl E, h.os, h.tape, h.output, h.size, fun B hB _ => h.old B hB, fun _ _ hx => .inl hx⟩

theorem isErrT_eq {hb : Nat} {rt et : TypeId} {l : List AV} (h : isErrT hb rt et l = true) : l = [.ifc rt (.agg [.lit (.pointer (some ⟨hb, et, none⟩))])] := by
  unfold isErrT at h
  split at h
  · simp only [Bool.and_eq_true, Nat.beq_eq] at h
    obtain ⟨⟨rfl, rfl⟩, rfl⟩ := h
    rfl
  · cases h

theorem storeVar_run {t : TypeId} {b off : Nat} {H H1 : HP} (hok : OK E H N0 w) {v : AV} {V : Value} (hv : VR E v V) (hw : H.wr b off v.cells = some H1) {B d S : Nat} (hμ : E.μ b = some (B, d, S)) (hsz : szOf P t = some v.cells.length) :
    ∃ w', (storeVar t ⟨B, d + off, none⟩ V).run P w = .ok () w' ∧ OK E H1 N0 w' ∧ Goes E E N0 w w' := by
  have hc := cells_sound hv (alls_flat (wr_ones hw))
  obtain ⟨h1, h2, h3⟩ := hok.wr hw hμ hc P
  refine ⟨_, ?_, h2, h3⟩
  have hcl := hc.length
  simp only [Array.length_toList] at hcl
  simp [storeVar, szOf_run hsz, show V.cells.size = v.cells.length by omega, h1]

theorem unlift {s : Sem Value} {V : Value} (h : (do pure (Next.value (← s)) : Sem Next).run P w = .ok (.value V) w) : s.run P w = .ok V w := by
  rw [Sem.run_bind] at h
  cases hs : s.run P w with
  | ok a w1 =>
    rw [hs] at h
    simp only [Result.andThen_ok, Sem.run_pure, Result.ok.injEq, Next.value.injEq] at h
    rw [h.1, h.2]
  | halt x w1 =>
    rw [hs] at h
    cases h

theorem swap_eq (b : Bool) (i j : Int) (a : Addr) (n cp : Nat) (h : Value) : Extern.ReflectliteSwapper.swap b #[.int .i64 i, .int .i64 j, .slice (some a) n cp, h] = (do
    if b then
      if i < 0 || i ≥ n then boundsPanic .i64 i n .index
      if j < 0 || j ≥ n then boundsPanic .i64 j n .index
    else if i < 0 || i ≥ n || j < 0 || j ≥ n then Extern.ReflectliteSwapper.outOfRange
    Extern.ReflectliteSwapper.exchange (← Extern.Rtype.ofHandle h) a i.toNat j.toNat) := rfl

/-- Where a store may go there is a cell that is not shut. -/
theorem cell_of_store {H H1 : HP} (hr : HR E H.obs.get H.cls.get N0 w) {b off : Nat} {x : AV} {X : Value} (hw : H.wr b off [x] = some H1) {B d S : Nat} (hμ : E.μ b = some (B, d, S)) (hx : VRs E [x] [X]) :
    ∃ old, w.cell? ⟨B, d + off, none⟩ = some old ∧ w.frozen? ⟨B, d + off, none⟩ = false := by
  unfold HP.wr HP.blk at hw
  simp only [bnd_eq, tst_eq, Bool.and_eq_true, Bool.not_eq_true', overX_eq, Nat.ble_eq, List.length_cons, List.length_nil] at hw
  obtain ⟨k, ⟨ob, hob, hk⟩, ⟨h1, -⟩, c, hc, h2, cs, ⟨h3, -⟩, -⟩ := hw
  cases ob with
  | mp _ => cases hk
  | cells k' =>
    cases hk
    obtain ⟨B', d', S', hμ', hb⟩ := hr.obj b _ hob
    rw [hμ] at hμ'; cases hμ'
    obtain ⟨⟨Cs, fz, g1, g2, g3, g4⟩, -⟩ := hb
    obtain ⟨X, hX, -⟩ := g3 off (k.cells[off]'(by omega)) (List.getElem?_eq_getElem (by omega))
    obtain ⟨-, hfz⟩ := g4 h1 c hc
    refine ⟨X, ?_, ?_⟩
    · simp only [World.cell?, g1]
      simp [hX]
    · simp only [World.frozen?, g1]
      rw [Bool.eq_false_iff]
      intro hf
      simp only [Bool.and_eq_true, decide_eq_true_eq] at hf
      have := hfz (d + off) trivial hf.2
      have h2' : c.hi ≤ k.base + off := h2
      omega

theorem swapper_sound {c : Cx} {tbl : List Nat} (hlit : ∀ k g, tbl[k]? = some g → 1 ≤ k → c.P.funcs.findIdx? (·.name == "internal/reflectlite" ++ ".Swapper$" ++ toString k) = some g) {t : TypeId} {s v' : AV} {a : Option Addr} {n c' : Nat}
    (hs : VR E s (.slice a n c')) (h : swapperA c tbl t s n = some v') (w : World) :
    ∃ V, (Extern.ReflectliteSwapper.swapper "internal/reflectlite" (Extern.ReflectliteValue.valueError "Swapper") #[.iface t (.slice a n c')]).run c.P w = .ok V w ∧ VR E v' V := by
  simp only [swapperA, bnd_eq, nthX_eq, Option.some.injEq] at h
  obtain ⟨oe, h1, e, h2, i, h3, k, h4, f, h5, rfl⟩ := h
  subst h2
  have r1 := pureRun_run h1
  have r4 := pureRun_run h4
  have hge : 1 ≤ swapNo n i (k == 24) := by
    unfold swapNo
    split
    · omega
    · split
      · omega
      · split
        · omega
        · split
          · omega
          · split
            · omega
            · split <;> omega
  have hf := hlit _ _ h5 hge
  have e1 : Extern.ReflectliteSwapper.swapper "internal/reflectlite" (Extern.ReflectliteValue.valueError "Swapper") #[.iface t (.slice a n c')] = (do
      let (.slice _ n1 _, some e) := ((.slice a n c' : Value), ← Extern.Rtype.elem? t) | Extern.ReflectliteValue.valueError "Swapper" (← Extern.Rtype.kind t)
      let i ← typeInfo e
      let isString := (← Extern.Rtype.kind e) == 24
      let k : Nat :=
        if n1 == 0 then 1 else if n1 == 1 then 2
        else if i.hasPointers && i.bytes == 8 then 3
        else if i.hasPointers && isString then 4
        else if i.hasPointers then 9
        else match i.bytes with | 8 => 5 | 4 => 6 | 2 => 7 | 1 => 8 | _ => 9
      let h ← Extern.Rtype.handle e
      Extern.ReflectliteSwapper.literal "internal/reflectlite" k (if k ≤ 2 then #[] else #[.slice a n c', h])) := rfl
  refine ⟨.func (.func f) #[] (if swapNo n i (k == 24) ≤ 2 then #[] else #[.slice a n c', typeHandle c.P e]), ?_, ?_⟩
  · rw [e1]
    have ht : (typeInfo e).run c.P w = .ok i w := by simp [typeInfo, h3]
    have hl : (Extern.ReflectliteSwapper.literal "internal/reflectlite" (swapNo n i (k == 24)) (if swapNo n i (k == 24) ≤ 2 then #[] else #[.slice a n c', typeHandle c.P e])).run c.P w = .ok (.func (.func f) #[] (if swapNo n i (k == 24) ≤ 2 then #[] else #[.slice a n c', typeHandle c.P e])) w := by
      simp only [Extern.ReflectliteSwapper.literal, Sem.run_bind, run_program, Result.andThen_ok, hf]
      rfl
    simp only [Sem.run_bind, r1, Result.andThen_ok, ht, r4, Extern.Rtype.handle, run_program, Sem.run_pure]
    exact hl
  · refine .fn _ _ _ _ _ .nil ?_
    cases hb : Nat.ble (swapNo n i (k == 24)) 2 with
    | true =>
      rw [Nat.ble_eq] at hb
      rw [if_pos hb]; exact .nil
    | false =>
      have : ¬ swapNo n i (k == 24) ≤ 2 := fun h => by rw [← Nat.ble_eq, hb] at h; cases h
      rw [if_neg this]
      exact .cons _ _ _ _ hs (.cons _ _ _ _ (.lit _) .nil)

theorem parts_run {hh : Value} {t : TypeId} (ht : (Extern.Rtype.ofHandle hh).run P w = .ok t w) (hp : P.packed t = false) {fl : Int} (hfl : fl.toNat % 32 = 23) {a : Addr} :
    (Extern.ReflectliteValue.parts (.agg #[hh, .pointer (some a), .int .u64 fl])).run P w = .ok (some (t, a, fl.toNat)) w := by
  have e1 : Extern.ReflectliteValue.partsAny (.agg #[hh, .pointer (some a), .int .u64 fl]) = (do pure (some (← Extern.Rtype.ofHandle hh, a, fl.toNat))) := by
    obtain ⟨m, rfl⟩ : ∃ m : Nat, fl = Int.ofNat (m + 1) := by
      cases fl with
      | ofNat m => cases m with
        | zero => simp at hfl
        | succ m => exact ⟨m, rfl⟩
      | negSucc m => simp at hfl
    rfl
  have e2 : (Extern.Rtype.noPack "a Value asked or handed on" t).run P w = .ok () w := by
    unfold Extern.Rtype.noPack
    rw [Sem.run_bind, run_program, Result.andThen_ok, hp]
    rfl
  unfold Extern.ReflectliteValue.parts
  rw [e1]
  simp only [Sem.run_bind, ht, Result.andThen_ok, Sem.run_pure, e2]

theorem ext_sound {c : Cx} (hX : ∀ f k, c.X f = some k → XOK' c.P f k) : ExtOK c N0 := by
  intro f k hf args H v H' h E w Args hok hG ha
  have hx := hX f k hf
  unfold evExt at h
  split at h
  · -- noEscape
    cases h
    obtain ⟨X, rfl, h1⟩ := ha.singleA
    exact XRow.does hx rfl hok (.refl E N0 w) h1
  · -- indexByteString
    rename_i s b
    simp only [tst_eq, Option.some.injEq, Prod.mk.injEq] at h
    obtain ⟨hb, rfl, rfl⟩ := h
    have hb := blt_eq hb
    obtain ⟨X, Y, rfl, h1, h2⟩ := ha.twoA
    cases h1; cases h2
    rename_i s' hs
    refine XRow.does hx (run_indexByte_string s' b w) hok (.refl E N0 w) ?_
    rw [← hs, firstIdx_eq s' _ hb]
    exact .int _ _
  · -- makeNoZero
    rename_i e n
    simp only [tst_eq, Option.some.injEq, Prod.mk.injEq, Nat.ble_eq] at h
    obtain ⟨hn, rfl, rfl⟩ := h
    obtain ⟨X, rfl, h1⟩ := ha.singleA
    cases h1
    obtain ⟨ps, t, h2, h3⟩ := hx
    obtain ⟨cs, h4, h5, -, -⟩ := Lib.run_makeNoZero_cap w ps t e h3 n (by omega)
    have hal := hok.drew.drew.alloc [] cs e none (fun j x hj => by simp at hj) (fun m hm => by cases hm)
    have hnone := hok.fr H.nxt (Nat.le_refl _)
    refine XRow.does h2 h4 hal ((Goes.alloc E N0 w.drew.drew (.cells cs e) H.nxt cs.size hnone).drew'.drew') ?_
    refine .slc H.nxt 0 n n 1 false w.heap.size 0 cs.size 0 cs.size (Env.ext_at _ _ _) h5 (fun e => by cases e) (.inl rfl) (by omega)
  · -- valueOf
    rename_i t x
    simp only [bnd_eq, tst_eq, Option.some.injEq, Prod.mk.injEq, lenX_eq] at h
    obtain ⟨k, hk, hfl, rfl, rfl⟩ := h
    obtain ⟨X, rfl, h1⟩ := ha.singleA
    cases h1
    rename_i V hV
    have hc := cells_sound hV hfl
    have hcl := hc.length
    simp only [Array.length_toList] at hcl
    have hal := hok.alloc x.cells V.cells t (some x.cells.length) (fun j y hj => by
      obtain ⟨Y, hY, hy⟩ := hc.get j y hj
      exact ⟨Y, by simpa using hY, hy⟩) (fun m hm => by cases hm; omega)
    have hnone := hok.fr H.nxt (Nat.le_refl _)
    have hkr := pureRun_run hk
    refine XRow.does hx (V := .agg #[typeHandle c.P t, .pointer (some ⟨w.heap.size, 0, none⟩), .int .u64 (Int.ofNat (k + 128))]) (w' := w.alloc (.cells V.cells t)) ?_ hal (Goes.alloc E N0 w (.cells V.cells t) H.nxt V.cells.size hnone) ?_
    · show (Extern.ReflectliteValue.unpack (.iface t V)).run c.P w = _
      simp [Extern.ReflectliteValue.unpack, Extern.ReflectliteValue.mk, run_newVar, Extern.Rtype.handle, hkr, Extern.ReflectliteValue.flagIndir]
    · refine .agg _ _ (.cons _ _ _ _ (.lit _) (.cons _ _ _ _ ?_ (.cons _ _ _ _ (.int _ _) .nil)))
      exact .ptr H.nxt 0 w.heap.size 0 V.cells.size (Env.ext_at _ _ _)
  · -- vLen
    rename_i hh b o fl
    simp only [bnd_eq, tst_eq, Nat.beq_eq, vLenA, Option.some.injEq, Prod.mk.injEq, Bool.and_eq_true, Bool.not_eq_true'] at h
    obtain ⟨hfl, t, ht, ⟨u, i⟩, hu, ⟨hp, hs⟩, d, hd, x, hx', v', hv', rfl, rfl⟩ := h
    obtain ⟨X, rfl, h1⟩ := ha.singleA
    cases h1
    rename_i Cs hCs
    obtain ⟨A, Bv, C, rfl, a1, a2, a3⟩ := hCs.threeA
    cases a1; cases a2; cases a3
    rename_i B dd S hμ
    obtain ⟨V, hV, hvv⟩ := loadVar_sound hok.hr hx' (fun ob hob => hob) hμ (P := c.P)
    have hparts := parts_run (P := c.P) (pureRun_run ht w) hp hfl (a := ⟨B, dd + o, none⟩)
    obtain ⟨V', hV', hvv'⟩ := builtinPure_sound (P := c.P) (b := .len) (ts := #[t]) (ty := 0) (cs := #[]) (vs := [x]) (Vs := #[V]) (v := v') (.cons _ _ _ _ hvv .nil) (by
      show bnd (argD c.P [t]) (fun d => lenA d [x]) = some v'
      simp only [argD, hd, bnd_some, hv']) w
    have hlen : (Builtin.len_ #[t] 0 #[V]).run c.P w = .ok V' w := unlift hV'
    have hundr := pureRun_run hu w
    have hnoarr : ∀ n e, i.desc ≠ .array n e := fun n e he => by rw [he] at hs; cases hs
    refine XRow.does hx (V := V') (w' := w) ?_ hok (.refl E N0 w) hvv'
    rw [rlm]
    simp only [Sem.run_bind, hparts, Result.andThen_ok, Int.ofNat_toNat]
    have e2 : Extern.ReflectliteValue.len t ⟨B, dd + o, none⟩ fl.toNat (fl.toNat % 32) = (do
        match (← Extern.Rtype.under t).2.desc with
        | .array n _ => pure (goInt (Int.ofNat n))
        | _ => Builtin.len_ #[t] 0 #[← loadVar t ⟨B, dd + o, none⟩]) := by
      rw [hfl]; rfl
    rw [e2]
    simp only [Sem.run_bind, hundr, Result.andThen_ok]
    simp only [hV, Result.andThen_ok, hlen]
  · -- swapper
    rename_i tbl t b o n cp sz ex
    simp only [bnd_eq, Option.some.injEq, Prod.mk.injEq] at h
    obtain ⟨v', hv', rfl, rfl⟩ := h
    obtain ⟨X, rfl, h1⟩ := ha.singleA
    cases h1
    rename_i V hV
    have hV0 := hV
    cases hV
    rename_i B d S D c' hμ h1 h2 h3 h4
    obtain ⟨hx1, hx2⟩ := hx
    obtain ⟨V', k1, k2⟩ := swapper_sound hx2 (a := some ⟨B, D, none⟩) hV0 hv' w
    exact XRow.does hx1 k1 hok (.refl E N0 w) k2
  · rename_i tbl t
    simp only [bnd_eq, Option.some.injEq, Prod.mk.injEq] at h
    obtain ⟨v', hv', rfl, rfl⟩ := h
    obtain ⟨X, rfl, h1⟩ := ha.singleA
    cases h1
    rename_i V hV
    have hV0 := hV
    cases hV
    obtain ⟨hx1, hx2⟩ := hx
    obtain ⟨V', k1, k2⟩ := swapper_sound hx2 (a := none) hV0 hv' w
    exact XRow.does hx1 k1 hok (.refl E N0 w) k2
  · -- swap
    rename_i i j b o n cp sz ex hh
    simp only [tst_eq, bnd_eq, Bool.and_eq_true, swapA, Nat.beq_eq, lenX_eq, Option.some.injEq, Prod.mk.injEq] at h
    obtain ⟨⟨hi, hj⟩, e, he, m, hm, rfl, x, hx1, y, hy1, ⟨hxl, hyl⟩, H1, hw1, H2, hw2, rfl, rfl⟩ := h
    have hi := blt_eq hi
    have hj := blt_eq hj
    obtain ⟨I, J, Sl, Hd, rfl, a1, a2, a3, a4⟩ := ha.fourA
    cases a1; cases a2; cases a4
    generalize hSl : Sl = Sl' at a3
    cases a3 with
    | slc _ _ _ _ _ _ B d S D c' hμ h1 h2 h4 h3 =>
    subst hSl
    have hD : D = d + o := by
      rcases h4 with h4 | ⟨h4, -⟩
      · exact h4
      · omega
    subst hD
    obtain ⟨Xv, lx, vx⟩ := loadVar_sound hok.hr hx1 (fun ob hob => hob) hμ (P := c.P)
    obtain ⟨Yv, ly, vy⟩ := loadVar_sound hok.hr hy1 (fun ob hob => hob) hμ (P := c.P)
    obtain ⟨w1, s1, k1, g1⟩ := storeVar_run (P := c.P) hok vy hw1 hμ (by rw [hm, hyl])
    obtain ⟨w2, s2, k2, g2⟩ := storeVar_run (P := c.P) k1 vx hw2 hμ (by rw [hm, hxl])
    obtain ⟨bb, hbb⟩ := hx
    refine XRow.does hbb (V := .tuple #[]) (w' := w2) ?_ k2 (g1.trans g2) (.tup _ _ .nil)
    have ho := pureRun_run he w
    have q1 : ¬ ((n : Int) ≤ (i : Int)) := by omega
    have q2 : ¬ ((n : Int) ≤ (j : Int)) := by omega
    have q3 : ¬ ((i : Int) < 0) := by omega
    have q4 : ¬ ((j : Int) < 0) := by omega
    have e1 : ∀ k : Nat, (⟨B, d + o, none⟩ : Addr).add k = ⟨B, d + (o + k), none⟩ := fun k => by rw [Addr.add_any, Nat.add_assoc]
    have hex : (Extern.ReflectliteSwapper.exchange e ⟨B, d + o, none⟩ i j).run c.P w = .ok (.tuple #[]) w2 := by
      simp only [Extern.ReflectliteSwapper.exchange, Sem.run_bind, szOf_run hm w, Result.andThen_ok, e1, lx, ly, s1, s2]
      rfl
    rw [swap_eq]
    cases bb with
    | true => simp [q1, q2, q3, q4, ho, hex]
    | false => simp [q1, q2, q3, q4, ho, hex]
  · -- errors.As
    rename_i g hb rt et te tp t b o t' b' o'
    simp only [tst_eq, bnd_eq, Bool.and_eq_true, Nat.beq_eq, Option.some.injEq, Prod.mk.injEq] at h
    obtain ⟨⟨rfl, rfl⟩, gb, hgb, l, hl, hil, H1, hw, rfl, rfl⟩ := h
    have := isErrT_eq hil
    subst this
    obtain ⟨X, Y, rfl, h1, h2⟩ := ha.twoA
    cases h1
    rename_i X' h1
    cases h2
    rename_i Y' h2
    cases h1
    rename_i B d S hμ
    cases h2
    rename_i B' d' S' hμ'
    obtain ⟨⟨fn, f1, f2, f3⟩, hhit⟩ := hx
    obtain ⟨Sg, hμg⟩ := hG g gb hgb
    obtain ⟨Ls, hLs, hlen, hc⟩ := hok.hr.rd hl (fun ob hob => hob) hμg
    obtain ⟨Lv, hLv, hvv⟩ := hLs.one
    subst hLv
    have hcell := hc 0 Lv rfl
    cases hvv
    rename_i V1 hvv
    cases hvv
    rename_i Cs hCs
    obtain ⟨V2, hV2, hvv⟩ := hCs.singleA
    cases hvv
    subst hV2
    -- the pointer's variable
    have hvr : VRs E [.ptr b o] [.pointer (some ⟨B, d + o, none⟩)] := .cons _ _ _ _ (.ptr b o B d S hμ) .nil
    obtain ⟨q1, -, -⟩ := hok.hr.wr hw hμ' hvr c.P
    have hq := q1 w rfl
    have hcl : ∃ old, w.cell? ⟨B', d' + o', none⟩ = some old ∧ w.frozen? ⟨B', d' + o', none⟩ = false := cell_of_store hok.hr hw hμ' hvr
    obtain ⟨old, c1, c2⟩ := hcl
    refine .inr ⟨by simp [callFunc, f1, show fn.name ≠ "runtime.NumGoroutine" by simpa using f2, show fn.body ≠ none by cases hb : fn.body <;> simp_all], ?_⟩
    refine Calls.mono (hhit ⟨B, d + o, none⟩ ⟨B', d' + o', none⟩ old w (by simpa using hcell) c1 c2) ?_
    rintro ev w' ⟨rfl, w1, hgr, rfl⟩
    obtain ⟨-, k1, k2⟩ := (hok.grown hgr).wr hw hμ' hvr c.P
    exact ⟨_, E, rfl, k1, hgr.goes.trans k2, .bool _⟩
  · cases h
end
end Go.AS
