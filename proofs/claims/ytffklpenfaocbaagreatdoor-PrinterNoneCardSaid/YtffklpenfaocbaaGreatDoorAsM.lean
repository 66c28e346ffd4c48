/-
  Allocations.
-/
import Derived.Test.YtffklpenfaocbaaGreatDoorAsL
import Derived.Laws.MakeOwn
import Derived.Lib.QuoteBits
set_option linter.unusedVariables false
set_option linter.unusedSimpArgs false
namespace Go.AS
open Go.RowKit

theorem reps_length (z : List AV) : ∀ n, (reps z n).length = n * z.length
  | 0 => by show ([] : List AV).length = _; simp
  | n + 1 => by
    show (z ++ reps z n).length = _
    rw [List.length_append, reps_length z n, Nat.succ_mul]; omega
theorem reps_get (z : List AV) (hz : 0 < z.length) : ∀ n i, i < n * z.length → (reps z n)[i]? = z[i % z.length]?
  | 0, i, h => by simp at h
  | n + 1, i, h => by
    show (z ++ reps z n)[i]? = _
    rw [List.getElem?_append]
    split
    · rename_i hi; rw [Nat.mod_eq_of_lt hi]
    · rename_i hi
      rw [Nat.succ_mul] at h
      rw [reps_get z hz n (i - z.length) (by omega)]
      congr 1
      have e : i = (i - z.length) + z.length := by omega
      conv => rhs; rw [e, Nat.add_mod_right]

theorem reps_sound {E : Env} {z : List AV} {Z : Array Value} (h : VRs E z Z.toList) (hz : 0 < z.length) (n m : Nat) (hm : m = n * z.length) : VRs E (reps z n) ((Array.range m).map (Z[· % Z.size]!)).toList := by
  have hl : z.length = Z.size := by have := h.length; simpa using this
  refine VRs.of_get (by simp [reps_length, hm]) fun i x X hx hX => ?_
  have hi : i < n * z.length := by
    have := (List.getElem?_eq_some_iff.1 hx).1
    rwa [reps_length] at this
  rw [reps_get z hz n i hi] at hx
  obtain ⟨Y, hY, hv⟩ := h.get _ x hx
  simp only [Array.toList_map, Array.toList_range, List.getElem?_map, List.getElem?_range (show i < m by omega), Option.map_some, Option.some.injEq] at hX
  subst hX
  have e : Z[i % Z.size]! = Y := by
    rw [← hl, getElem!_def]
    simp only [Array.getElem?_toList] at hY
    rw [hY]
  rw [e]; exact hv

/-- What is made new. -/
def Made (E : Env) (H H' : HP) (ob : Obj) (S : Nat) : Prop :=
  (∃ cells el xsz Cs, ob = .cells Cs el ∧ S = Cs.size ∧ H' = H.alloc cells el xsz ∧ (∀ (j : Nat) (x : AV), cells[j]? = some x → ∃ X, Cs[j]? = some X ∧ VR E x X) ∧ ∀ n, xsz = some n → Cs.size = n) ∨
  (ob = .map #[] 0 ∧ H' = { obs := H.obs.put H.nxt (.mp []), nxt := Nat.succ H.nxt, cls := H.cls })

theorem OK.allocMap {E : Env} {H : HP} {N0 : Nat} {w : World} (h : OK E H N0 w) (S : Nat) :
    OK (E.ext H.nxt (w.heap.size, 0, S)) { obs := H.obs.put H.nxt (.mp []), nxt := Nat.succ H.nxt, cls := H.cls } N0 (w.alloc (.map #[] 0)) := by
  have hnone := h.fr H.nxt (Nat.le_refl _)
  have hle := E.le_ext (w.heap.size, 0, S) hnone
  refine ⟨⟨?_, ?_⟩, ?_, ?_, by simp; have := h.n0; omega, h.bd_ext _ _ _⟩
  · intro i ob hi
    rw [Tr.get_put] at hi
    by_cases e : i = H.nxt
    · subst e
      rw [if_pos rfl] at hi
      cases hi
      exact ⟨w.heap.size, 0, S, Env.ext_at _ _ _, h.n0, #[], 0, heap_alloc_at _ _, trivial⟩
    · rw [if_neg e] at hi
      obtain ⟨B, d, S, hμ, hr⟩ := h.hr.obj i ob hi
      exact ⟨B, d, S, by rw [Env.ext_ne E _ e]; exact hμ, (hr.mono hle).into (heap_alloc_old w _ (h.hr.lt hi hμ)) fun k hk c hc => .inl hc⟩
  · intro i j oi oj B d S d' S' hij hi hj mi mj hB
    rw [Tr.get_put] at hi hj
    by_cases ei : i = H.nxt
    · have ej : j ≠ H.nxt := fun e => hij (ei.trans e.symm)
      rw [if_neg ej] at hj
      rw [Env.ext_ne E _ ej] at mj
      subst ei
      rw [Env.ext_at] at mi; cases mi
      exact absurd (h.hr.lt hj mj) (by omega)
    · rw [if_neg ei] at hi
      rw [Env.ext_ne E _ ei] at mi
      by_cases ej : j = H.nxt
      · subst ej
        rw [Env.ext_at] at mj; cases mj
        exact absurd (h.hr.lt hi mi) (by omega)
      · rw [if_neg ej] at hj
        rw [Env.ext_ne E _ ej] at mj
        exact h.hr.sep i j oi oj B d S d' S' hij hi hj mi mj hB
  · intro i hi
    have hi' : H.nxt + 1 ≤ i := hi
    rw [Env.ext_ne E _ (by omega)]
    exact h.fr i (by omega)
  · intro i k hi
    rw [Tr.get_put] at hi
    show k.cls < H.nxt + 1
    split at hi
    · cases hi
    · exact Nat.lt_succ_of_lt (h.cl i k hi)

theorem OK.made {E : Env} {H H' : HP} {N0 : Nat} {w : World} (h : OK E H N0 w) {ob : Obj} {S : Nat} (hm : Made E H H' ob S) :
    OK (E.ext H.nxt (w.heap.size, 0, S)) H' N0 (w.alloc ob) ∧ Goes E (E.ext H.nxt (w.heap.size, 0, S)) N0 w (w.alloc ob) := by
  refine ⟨?_, Goes.alloc E N0 w ob H.nxt S (h.fr H.nxt (Nat.le_refl _))⟩
  rcases hm with ⟨cells, el, xsz, Cs, rfl, rfl, rfl, h1, h2⟩ | ⟨rfl, rfl⟩
  · exact h.alloc cells Cs el xsz h1 h2
  · exact h.allocMap S

section
variable {c : Cx} {E : Env} {T : TM} {a : Act}

def Makes (P : Program) (E : Env) (a : Act) (o : Oper) (w : World) (v : AV) (H H' : HP) : Prop :=
  ∃ V ob S, (execOp a.eval o).run P w = .ok (.value V) (w.alloc ob) ∧ (∀ E' : Env, E'.μ H.nxt = some (w.heap.size, 0, S) → VR E' v V) ∧ Made E H H' ob S

theorem run_newVar {P : Program} (t : TypeId) (v : Value) (w : World) : (newVar t v).run P w = .ok ⟨w.heap.size, 0, none⟩ (w.alloc (.cells v.cells t)) := rfl

theorem allocA_sound {z : AV} {Z : Value} {t : TypeId} {H H' : HP} {v : AV} (hz : VR E z Z) (h : allocA H t z = some (v, H')) (w : World) :
    (∀ E' : Env, E'.μ H.nxt = some (w.heap.size, 0, Z.cells.size) → VR E' v (.pointer (some ⟨w.heap.size, 0, none⟩))) ∧ Made E H H' (.cells Z.cells t) Z.cells.size := by
  simp only [allocA, tst_eq, Option.some.injEq, Prod.mk.injEq, lenX_eq] at h
  obtain ⟨hf, rfl, rfl⟩ := h
  have hc := cells_sound hz hf
  refine ⟨fun E' h' => .ptr _ 0 w.heap.size 0 _ h', .inl ⟨z.cells, t, _, Z.cells, rfl, rfl, rfl, fun j x hx => ?_, fun n hn => ?_⟩⟩
  · obtain ⟨X, hX, hv⟩ := hc.get j x hx
    exact ⟨X, by simpa using hX, hv⟩
  · cases hn; have := hc.length; simpa using this.symm

theorem sliceD_eq {d : TypeDesc} {e : TypeId} (h : sliceD d = some e) : d = .slice e := by
  cases d <;> simp only [sliceD, reduceCtorEq, Option.some.injEq] at h
  subst h; rfl

theorem made_row {cells : List AV} {Cs : Array Value} {el : TypeId} {n : Nat} {H : HP} (h : VRs E cells Cs.toList) (hn : Cs.size = n) : Made E H (H.alloc cells el (some n)) (.cells Cs el) Cs.size :=
  .inl ⟨cells, el, _, Cs, rfl, rfl, rfl, fun j x hx => let ⟨X, hX, hv⟩ := h.get j x hx; ⟨X, by simpa using hX, hv⟩, fun m hm => by cases hm; exact hn⟩

theorem fill_size {place : Nat → Option (Nat × Nat)} : ∀ {ps : List (Nat × Value)} {Cs R : Array Value}, Instr.fill place Cs ps = some R → R.size = Cs.size
  | [], Cs, R, h => by simp only [Instr.fill, Option.some.injEq] at h; subst h; rfl
  | (i, v) :: ps, Cs, R, h => by
    simp only [Instr.fill] at h
    split at h
    · cases h
    · split at h
      · cases h
      · rw [fill_size h]
        rename_i off size _ _
        have key : ∀ (l : List (Value × Nat)) (Cs : Array Value), (l.foldl (fun cs p => cs.setIfInBounds (off + p.2) p.1) Cs).size = Cs.size := by
          intro l
          induction l with
          | nil => intro Cs; rfl
          | cons p l ih => intro Cs; rw [List.foldl_cons, ih]; simp
        rw [← Array.foldl_toList]
        exact key _ _

theorem opAlloc_sound (hT : TR E T a) (hG : GL c E) {H H' : HP} {o : Oper} {v : AV} (h : opAlloc c T H o.op = some (v, H')) (w : World) : Makes c.P E a o w v H H' := by
  obtain ⟨dst, op, type, pos, after, guard⟩ := o
  unfold Makes
  cases op <;> simp only [opAlloc, reduceCtorEq] at h
  case alloc t =>
    simp only [bnd_eq] at h
    obtain ⟨z, hz, h⟩ := h
    obtain ⟨Z, hZ, hzr, -⟩ := zeroOf_run (E := E) hz
    obtain ⟨h1, h2⟩ := allocA_sound hZ h w
    exact ⟨_, _, _, by simp [execOp, Instr.alloc, hzr, run_newVar], h1, h2⟩
  case box t x =>
    simp only [bnd_eq] at h
    obtain ⟨u, hu, h⟩ := h
    obtain ⟨h1, h2⟩ := allocA_sound (ev_sound hT hG hu) h w
    exact ⟨_, _, _, by simp [execOp, Instr.box, run_newVar], h1, h2⟩
  case buildSlice t len parts =>
    simp only [bnd_eq, buildSliceA, tst_eq, Option.some.injEq, Prod.mk.injEq] at h
    obtain ⟨ps, hps, d, hd, e, he, sz, hsz, z, hz, hcond, cells, hfill, rfl, rfl⟩ := h
    simp only [Bool.and_eq_true, Nat.beq_eq, lenX_eq, Nat.ble_eq] at hcond
    obtain ⟨⟨⟨hf, h0⟩, hle⟩, hzl⟩ := hcond
    have h0' : 0 < sz := by
      have : Nat.ble (Nat.succ 0) sz = true := h0
      rw [Nat.ble_eq] at this; exact this
    have := sliceD_eq he; subst this
    obtain ⟨Z, hZ, hzr, -⟩ := zeroOf_run (E := E) hz
    have hc := cells_sound hZ hf
    have hrep := reps_sound hc (by omega) len (len * sz) (by rw [hzl])
    have hprs := evParts_sound hT hG hps
    obtain ⟨R, hR, hvR⟩ := fill_sound hprs hrep hfill
    have hsize : R.size = len * sz := by rw [fill_size hR]; simp
    have hex : execOp a.eval ⟨dst, .buildSlice t len parts, type, pos, after, guard⟩ = (do pure (Next.value (← Instr.buildSlice t len (parts.toList.map fun p => (p.1, a.eval p.2)).toArray)) : Sem Next) := by rw [parts_map]; rfl
    rw [hex]
    refine ⟨.slice (some ⟨w.heap.size, 0, none⟩) len len, .cells R e, R.size, ?_, fun E' h' => .slc _ 0 len len sz true _ 0 _ 0 len h' (Nat.le_refl _) (fun _ => rfl) (.inl rfl) (by omega), made_row hvR hsize⟩
    by_cases hl : len = 0
    · subst hl
      have hR0 : Instr.fill (fun i => some (i * sz, sz)) (Array.map (fun _ => (default : Value)) (Array.range 0)) (parts.toList.map fun p => (p.1, a.eval p.2)) = some R := by
        have e0 : ∀ f : Nat → Value, Array.map f (Array.range 0) = #[] := fun f => Array.eq_empty_of_size_eq_zero (by rw [Array.size_map, Array.size_range])
        rw [Nat.zero_mul, e0] at hR
        rw [e0]
        exact hR
      simp [Instr.buildSlice, run_underlying hd, szOf_run hsz, hR0, newRow]
    · have hR1 : Instr.fill (fun i => some (i * sz, sz)) (Array.map (fun x => Z.cells[x % Z.cells.size]!) (Array.range (len * sz))) (parts.toList.map fun p => (p.1, a.eval p.2)) = some R := hR
      have hne : ¬ len * sz = 0 := Nat.mul_ne_zero hl (by omega)
      simp only [Instr.buildSlice, hne, if_false]
      simp [run_underlying hd, szOf_run hsz, show ¬ 16777216 < len * sz by omega, hl, hne, show ¬ sz = 0 by omega, hzr, hR1, newRow]
  case makeSlice t l cp =>
    simp only [bnd_eq, makeSliceA, tst_eq, Option.some.injEq, Prod.mk.injEq] at h
    obtain ⟨av, hav, n, hn, bv, hbv, m, hm, d, hd, e, he, i, hi, z, hz, hcond, rfl, rfl⟩ := h
    simp only [Bool.and_eq_true, Nat.beq_eq, lenX_eq, Nat.ble_eq] at hcond
    obtain ⟨⟨⟨⟨⟨hnm, hm32⟩, hbytes⟩, hf⟩, hzl⟩, h0⟩ := hcond
    have h0' : 0 < i.size := by
      have : Nat.ble (Nat.succ 0) i.size = true := h0
      rw [Nat.ble_eq] at this; exact this
    have := sliceD_eq he; subst this
    have hA : a.eval l = .int .i64 (n : Int) := by
      have hx := ev_sound hT hG hav
      unfold i64Of at hn
      split at hn
      · cases hn; generalize a.eval l = X at hx; cases hx; rfl
      · cases hn
    have hB : a.eval cp = .int .i64 (m : Int) := by
      have hx := ev_sound hT hG hbv
      unfold i64Of at hm
      split at hm
      · cases hm; generalize a.eval cp = X at hx; cases hx; rfl
      · cases hm
    obtain ⟨Z, hZ, hzr, -⟩ := zeroOf_run (E := E) hz
    have hc := cells_sound hZ hf
    have hrep := reps_sound hc (by omega) m (m * i.size) (by rw [hzl])
    have hsz : ((Array.range (m * i.size)).map (Z.cells[· % Z.cells.size]!)).size = m * i.size := by rw [Array.size_map, Array.size_range]
    refine ⟨.slice (some ⟨w.heap.size, 0, none⟩) n m, .cells _ e, _, ?_, fun E' h' => .slc _ 0 n m i.size true _ 0 _ 0 m h' (Nat.le_refl _) (fun _ => rfl) (.inl rfl) (by rw [hsz]; omega), made_row hrep hsz⟩
    have hb1 : (i.bytes : Int) * (m : Int) ≤ 281474976710656 := by
      have := Int.ofNat_le.2 hbytes
      rw [Int.natCast_mul, Int.mul_comm] at this; omega
    obtain ⟨Z', hZ', -, i', hi', hz'⟩ := zeroOf_run (E := E) hz
    rw [hi] at hi'; cases hi'
    have hZZ : Z' = Z := by
      have h1 := hzr w
      simp [zeroValue, typeInfo, hi, hz'] at h1
      exact h1
    subst hZZ
    have hrun := run_make (P := c.P) w t e i Z' hd hi hz' .i64 .i64 (n : Int) (m : Int) (by omega) (by omega) hb1 (by omega)
    simp only [Int.toNat_natCast] at hrun
    rw [← hA, ← hB] at hrun
    show (do pure (Next.value (← Instr.makeSlice t (a.eval l) (a.eval cp))) : Sem Next).run c.P w = _
    rw [Sem.run_bind, hrun]
    rfl
  case makeMap t r =>
    unfold makeMapA at h
    split at h
    · simp only [Option.some.injEq, Prod.mk.injEq] at h
      obtain ⟨rfl, rfl⟩ := h
      exact ⟨.map (some w.heap.size), .map #[] 0, 0, by simp [execOp, Instr.makeMap], fun E' h' => .mp _ _ 0 0 h', .inr ⟨rfl, rfl⟩⟩
    · cases h
end
end Go.AS
