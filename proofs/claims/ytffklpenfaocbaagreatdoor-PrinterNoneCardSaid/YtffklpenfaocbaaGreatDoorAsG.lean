/-
  The pure operations, one by one.
-/
import Derived.Test.YtffklpenfaocbaaGreatDoorAsF
import Derived.Laws.StructEq
set_option linter.unusedVariables false
set_option linter.unusedSimpArgs false
namespace Go.AS
open Go.RowKit

theorem pureRun_run {α : Type} {P : Program} : ∀ {s : Sem α} {v : α}, pureRun P s = some v → ∀ w, s.run P w = .ok v w
  | .pure a, v, h, w => by simp only [pureRun, Option.some.injEq] at h; subst h; rfl
  | .program k, v, h, w => by simp only [pureRun] at h; exact pureRun_run h w
  | .mark m k, v, h, w => by simp only [pureRun] at h; exact pureRun_run h w
  | .load .., v, h, w => by simp [pureRun] at h
  | .store .., v, h, w => by simp [pureRun] at h
  | .new .., v, h, w => by simp [pureRun] at h
  | .shape .., v, h, w => by simp [pureRun] at h
  | .freeze .., v, h, w => by simp [pureRun] at h
  | .frozen .., v, h, w => by simp [pureRun] at h
  | .getObj .., v, h, w => by simp [pureRun] at h
  | .setObj .., v, h, w => by simp [pureRun] at h
  | .choose .., v, h, w => by simp [pureRun] at h
  | .sys .., v, h, w => by simp [pureRun] at h
  | .halt .., v, h, w => by simp [pureRun] at h

theorem map_toNat_inj : ∀ {x y : List UInt8}, x.map UInt8.toNat = y.map UInt8.toNat → x = y
  | [], [], _ => rfl
  | a :: x, b :: y, h => by
    simp only [List.map_cons, List.cons.injEq] at h
    rw [map_toNat_inj h.2, UInt8.toNat.inj h.1]
  | [], _ :: _, h => by simp at h
  | _ :: _, [], h => by simp at h

theorem str_eq {s t : ByteArray} {x y : List Nat} (hs : s.data.toList.map UInt8.toNat = x) (ht : t.data.toList.map UInt8.toNat = y) : (s.toList == t.toList) = decide (x = y) := by
  rw [ByteArray.toList_eq, ByteArray.toList_eq]
  subst hs; subst ht
  by_cases h : s.data.toList = t.data.toList
  · simp [h]
  · have h2 : ¬ (s.data.toList.map UInt8.toNat = t.data.toList.map UInt8.toNat) := fun e => h (map_toNat_inj e)
    rw [decide_eq_false h2]
    exact beq_eq_false_iff_ne.2 h

theorem str_lt : ∀ {s t : List UInt8}, Op.bytesLess s t = bLess (s.map UInt8.toNat) (t.map UInt8.toNat)
  | _, [] => by simp [Op.bytesLess, bLess]
  | [], _ :: _ => by simp [Op.bytesLess, bLess]
  | a :: x, b :: y => by
    simp only [Op.bytesLess, List.map_cons, bLess, str_lt]
    have e1 : decide (a < b) = Nat.blt a.toNat b.toNat := by
      rw [Bool.eq_iff_iff, decide_eq_true_iff, UInt8.lt_iff_toNat_lt]
      show _ ↔ Nat.ble (Nat.succ a.toNat) b.toNat = true
      rw [Nat.ble_eq]; exact Iff.rfl
    have e2 : (a == b) = Nat.beq a.toNat b.toNat := by
      rw [Bool.eq_iff_iff, Nat.beq_eq, beq_iff_eq]; exact UInt8.toNat_inj.symm
    rw [e1, e2]

theorem str_size {s : ByteArray} {x : List Nat} (hs : s.data.toList.map UInt8.toNat = x) : s.size = x.length := by
  subst hs; rw [List.length_map, Array.length_toList]; rfl

section
variable {P : Program}

theorem isAg_run {t : TypeId} {b : Bool} (h : isAg P t = some b) (w : World) : (isAgg t).run P w = .ok b w := by
  unfold isAg at h
  split at h <;> simp only [Option.some.injEq, reduceCtorEq] at h <;> subst h <;> rename_i hu
  · simp [isAgg, run_underlying hu]
  · simp [isAgg, run_underlying hu]
  · rename_i d h1 h2
    unfold isAgg
    rw [Sem.run_bind, run_underlying hu]
    cases d <;> first | rfl | exact absurd rfl (h1 _) | exact absurd rfl (h2 _ _)
theorem szOf_run {t : TypeId} {n : Nat} (h : szOf P t = some n) (w : World) : (sizeOf t).run P w = .ok n w := by
  simp only [szOf, bnd_eq, Option.some.injEq] at h
  obtain ⟨i, hi, rfl⟩ := h
  simp [sizeOf, typeInfo, hi]
theorem szOf_info {t : TypeId} {n : Nat} (h : szOf P t = some n) : (P.info? t).map (·.size) = some n := by
  simp only [szOf, bnd_eq, Option.some.injEq] at h
  obtain ⟨i, hi, rfl⟩ := h
  simp [hi]
theorem zeroOf_run {E : Env} {t : TypeId} {z : AV} (h : zeroOf P t = some z) : ∃ Z, VR E z Z ∧ (∀ w, (zeroValue t).run P w = .ok Z w) ∧ ∃ i, P.info? t = some i ∧ i.zero = some Z := by
  simp only [zeroOf, bnd_eq] at h
  obtain ⟨i, hi, Z, hz, hv⟩ := h
  exact ⟨Z, ofV_sound hv, fun w => by simp [zeroValue, typeInfo, hi, hz], i, hi, hz⟩

theorem part_sound {E : Env} {t : TypeId} {cs : List AV} {Cs : Array Value} {off : Nat} {v : AV} (hc : VRs E cs Cs.toList) (h : part P t cs off = some v) (w : World) :
    ∃ V, (_root_.Go.part t Cs off).run P w = .ok V w ∧ VR E v V := by
  simp only [part, bnd_eq] at h
  obtain ⟨b, hb, h⟩ := h
  have hag := isAg_run hb w
  cases b with
  | true =>
    simp only [ite'_true, bnd_eq, takeX_eq, dropX_eq, Option.some.injEq] at h
    obtain ⟨n, hn, l, ⟨hl, rfl⟩, rfl⟩ := h
    refine ⟨.agg (Cs.extract off (off + n)), by simp [_root_.Go.part, hag, szOf_run hn], .agg _ _ ?_⟩
    rw [Array.toList_extract]
    have := (hc.drop off).take n
    simpa [List.extract_eq_take_drop] using this
  | false =>
    simp only [ite'_false, nthX_eq] at h
    obtain ⟨V, hV, hv⟩ := hc.get off v h
    have hV' : Cs[off]? = some V := by simpa using hV
    exact ⟨V, by simp [_root_.Go.part, hag, hV'], hv⟩

theorem aEq_sound {E : Env} : ∀ (d : Nat) (t : TypeId) (x y : AV) (X Y : Value) (b : Bool), VR E x X → VR E y Y → aEq P d t x y = some b → ∀ (e : Nat), d ≤ e → ∀ w, (Op.equalIn e t X Y).run P w = .ok b w
  | 0, t, x, y, X, Y, b, hx, hy, h, e, he, w => by simp [aEq] at h
  | d + 1, t, x, y, X, Y, b, hx, hy, h, e, he, w => by
    obtain ⟨e, rfl⟩ : ∃ e', e = e' + 1 := ⟨e - 1, by omega⟩
    unfold aEq at h
    split at h
    case h_20 fields xs ys hu =>
      cases hx with
      | agg _ Xs hxs => cases hy with
        | agg _ Ys hys =>
          cases hst : P.stoodInHeld t with
          | true => simp [hst] at h
          | false =>
            simp only [hst, cond_false] at h
            have hf : P.fieldsOf t = fields := by simp [Program.fieldsOf, hu]
            rw [run_equalIn_struct w e t Xs Ys (by rw [hf]; exact hu) hst, hf]
            have stuckF : ∀ (fs : List Field), fs.foldl (fun acc f => match acc with
                | some true => bif (f.name == "_") then some true else (match part P f.type xs f.offset, part P f.type ys f.offset with
                  | some a, some b => aEq P d f.type a b
                  | _, _ => none)
                | r => r) (some false) = some false := by
              intro fs; induction fs with
              | nil => rfl
              | cons f fs ih => exact ih
            have stuckN : ∀ (fs : List Field), fs.foldl (fun acc f => match acc with
                | some true => bif (f.name == "_") then some true else (match part P f.type xs f.offset, part P f.type ys f.offset with
                  | some a, some b => aEq P d f.type a b
                  | _, _ => none)
                | r => r) none = none := by
              intro fs; induction fs with
              | nil => rfl
              | cons f fs ih => exact ih
            have key : ∀ (fs : List Field) (b : Bool), fs.foldl (fun acc f => match acc with
                | some true => bif (f.name == "_") then some true else (match part P f.type xs f.offset, part P f.type ys f.offset with
                  | some a, some b => aEq P d f.type a b
                  | _, _ => none)
                | r => r) (some true) = some b → (Op.eqFields e Xs Ys fs).run P w = .ok b w := by
              intro fs
              induction fs with
              | nil => intro b hb; simp only [List.foldl_nil, Option.some.injEq] at hb; subst hb; rfl
              | cons f fs ih =>
                intro b hb
                rw [List.foldl_cons] at hb
                simp only [Op.eqFields]
                by_cases hn : f.name = "_"
                · simp only [hn, beq_self_eq_true, cond_true] at hb
                  simp only [hn, ne_eq, not_true_eq_false, if_false]
                  exact ih b hb
                · have hn' : (f.name == "_") = false := by simpa using hn
                  simp only [hn', cond_false] at hb
                  simp only [ne_eq, hn, not_false_eq_true, if_true]
                  cases hp : part P f.type xs f.offset with
                  | none => simp only [hp] at hb; rw [stuckN] at hb; cases hb
                  | some u => cases hq : part P f.type ys f.offset with
                    | none => simp only [hp, hq] at hb; rw [stuckN] at hb; cases hb
                    | some v =>
                      simp only [hp, hq] at hb
                      obtain ⟨U, hU, vU⟩ := part_sound hxs hp w
                      obtain ⟨V, hV, vV⟩ := part_sound hys hq w
                      cases hr : aEq P d f.type u v with
                      | none => rw [hr, stuckN] at hb; cases hb
                      | some r =>
                        rw [hr] at hb
                        have hrun := aEq_sound d f.type u v U V r vU vV hr e (by omega) w
                        simp only [Sem.run_bind, hU, hV, hrun, Result.andThen_ok, Sem.run_ite]
                        cases r with
                        | true => simp only [Bool.not_true, Bool.false_eq_true, if_false]; exact ih b hb
                        | false => rw [stuckF] at hb; cases hb; simp
            exact key fields.toList b h
    all_goals first | (simp only [reduceCtorEq] at h; done) | skip
    case h_2 hu =>
      cases hx; cases hy
      split at h
      · rename_i hk; subst hk; cases h
        simp only [Op.equalIn, Sem.run_bind, run_underlying hu, Result.andThen_ok, if_true, Sem.run_pure]
        congr 1
      · cases h
    case h_3 hu =>
      cases hx with
      | str _ s hs => cases hy with
        | str _ t ht =>
          cases h
          simp only [Op.equalIn, Sem.run_bind, run_underlying hu, Result.andThen_ok, Sem.run_pure, beq_toListBytes, str_eq hs ht]
    case h_7 hu =>
      cases hx with
      | ptr b1 o1 B1 d1 S1 h1 => cases hy with
        | ptr b2 o2 B2 d2 S2 h2 =>
          split at h
          · rename_i n hn
            split at h
            · rename_i hb; subst hb
              rw [h1] at h2; cases h2
              cases h
              simp only [Op.equalIn, Sem.run_bind, run_underlying hu, Result.andThen_ok, szOf_run hn, sameAddr, Sem.run_ite, beq_self_eq_true, if_true, Sem.run_pure]
              rw [if_pos (by simp)]
              congr 1
              rw [Bool.eq_iff_iff]
              simp
            · cases h
          · cases h
    all_goals (rename_i hu; cases hx; cases hy; cases h; simp [Op.equalIn, run_underlying hu])

abbrev Yields (P : Program) (E : Env) (a : Act) (o : Oper) (w : World) (v : AV) : Prop := ∃ V, (execOp a.eval o).run P w = .ok (.value V) w ∧ VR E v V

theorem wrap_wrap (k : IntKind) (n : Int) : k.wrap n = k.wrap n := rfl

def Seen : AV → Prop
  | .opq _ => False
  | .lit _ => False
  | _ => True

theorem aEq_seen {d : Nat} {t : TypeId} {x y : AV} {b : Bool} (h : aEq P d t x y = some b) : Seen x ∧ Seen y := by
  cases d with
  | zero => simp [aEq] at h
  | succ d =>
    unfold aEq at h
    split at h <;> first | exact ⟨trivial, trivial⟩ | simp at h

theorem eqGuard_run {E : Env} {t : TypeId} {x y : AV} {X Y : Value} {cst b : Bool} (op : BinOp) (ox oy : Operand) (hx : VR E x X) (hy : VR E y Y) (hc : cst = (isConstOp ox || isConstOp oy))
    (h : eqFree P t x y cst = true) (hs : aEq P 40 t x y = some b) (w : World) : (eqGuard op t ox oy X Y).run P w = .ok () w := by
  obtain ⟨sx, sy⟩ := aEq_seen hs
  have quiet : ∀ (X Y : Value), ¬ (X = .nilIface ∧ Y = .nilIface) → (∀ A B, ¬ (X = .agg A ∧ Y = .agg B)) → (eqGuard op t ox oy X Y).run P w = .ok () w := by
    intro X Y h1 h2
    unfold eqGuard
    cases op <;> first | rfl | skip
    all_goals
      cases X <;> cases Y <;> first | rfl | exact absurd ⟨rfl, rfl⟩ h1 | exact absurd ⟨rfl, rfl⟩ (h2 _ _)
  by_cases hn : X = .nilIface ∧ Y = .nilIface
  · obtain ⟨rfl, rfl⟩ := hn
    have ex : x = .nili := by cases hx <;> first | rfl | exact sx.elim
    have ey : y = .nili := by cases hy <;> first | rfl | exact sy.elim
    subst ex; subst ey
    simp only [eqFree] at h
    rw [hc] at h
    clear quiet hc hs
    unfold eqGuard
    cases op <;> first | rfl | skip
    all_goals (cases ox <;> cases oy <;> first | rfl | (simp [isConstOp] at h; done))
  · by_cases hg : ∃ A B, X = .agg A ∧ Y = .agg B
    · obtain ⟨A, B, rfl, rfl⟩ := hg
      have ex : ∃ l, x = .agg l := by cases hx <;> first | exact ⟨_, rfl⟩ | exact sx.elim
      have ey : ∃ l, y = .agg l := by cases hy <;> first | exact ⟨_, rfl⟩ | exact sy.elim
      obtain ⟨l1, rfl⟩ := ex
      obtain ⟨l2, rfl⟩ := ey
      simp only [eqFree, Bool.not_eq_true'] at h
      unfold eqGuard
      cases op <;> first | rfl | skip
      all_goals simp [h]
    · exact quiet X Y hn fun A B hAB => hg ⟨A, B, hAB⟩

theorem binOp_other {op : BinOp} {t : TypeId} {X Y : Value} (h1 : ¬ ∃ k a k' b, X = .int k a ∧ Y = .int k' b) (h2 : ¬ ∃ a b, X = .string a ∧ Y = .string b) (w : World)
    {b : Bool} (he : (Op.equal t X Y).run P w = .ok b w) (hf : ∀ k n, X ≠ .float k n) (hcx : ∀ k a b, X ≠ .complex k a b) :
    (op = .eql → (binOp op t X Y).run P w = .ok (.bool b) w) ∧ (op = .neq → (binOp op t X Y).run P w = .ok (.bool (!b)) w) := by
  constructor
  · rintro rfl
    cases X <;> cases Y <;> first
      | exact absurd ⟨_, _, _, _, rfl, rfl⟩ h1
      | exact absurd ⟨_, _, rfl, rfl⟩ h2
      | exact absurd rfl (hf _ _)
      | exact absurd rfl (hcx _ _ _)
      | simp [binOp, he]
  · rintro rfl
    cases X <;> cases Y <;> first
      | exact absurd ⟨_, _, _, _, rfl, rfl⟩ h1
      | exact absurd ⟨_, _, rfl, rfl⟩ h2
      | exact absurd rfl (hf _ _)
      | exact absurd rfl (hcx _ _ _)
      | simp [binOp, he]

theorem binOp_sound {E : Env} {op : BinOp} {t : TypeId} {x y v : AV} {X Y : Value} (ox oy : Operand) (hx : VR E x X) (hy : VR E y Y)
    (h : binOpA P op t x y (isConstOp ox || isConstOp oy) = some v) (w : World) :
    ∃ V, (eqGuard op t ox oy X Y >>= fun _ => binOp op t X Y).run P w = .ok V w ∧ VR E v V := by
  unfold binOpA at h
  split at h
  · rename_i k a k' b
    cases hx; cases hy
    have hg : (eqGuard op t ox oy (.int k a) (.int k' b)).run P w = .ok () w := by
      unfold eqGuard; cases op <;> rfl
    rw [Sem.run_bind, hg, Result.andThen_ok]
    unfold intOp at h
    rw [ite'_if] at h
    split at h
    · rename_i hk
      have hk' : k = k' := by simpa using hk
      subst hk'
      have rest : ∀ op, intRest P op t k a b = some v → ∃ V, (binOp op t (.int k a) (.int k b)).run P w = .ok V w ∧ VR E v V := by
        intro op h
        simp only [intRest, bnd_eq] at h
        obtain ⟨V, hV, hc⟩ := h
        exact ⟨V, pureRun_run hV w, ofCell_sound hc⟩
      have hw : ∀ op V, binOp op t (.int k a) (.int k b) = Sem.pure V → (binOp op t (.int k a) (.int k b)).run P w = .ok V w := fun op V e => by rw [e]; rfl
      have kk : ¬ (k ≠ k) := fun h => h rfl
      unfold intSame at h
      split at h
      · cases h; exact ⟨_, hw _ _ (by simp only [binOp, if_neg kk]; rfl), .int _ _⟩
      · cases h; exact ⟨_, hw _ _ (by simp only [binOp, if_neg kk]; rfl), .int _ _⟩
      · cases h; exact ⟨_, hw _ _ (by simp only [binOp, if_neg kk]; rfl), .bool _⟩
      · cases h
        refine ⟨_, hw _ (.bool (!decide (a = b))) ?_, .bool _⟩
        simp only [binOp, if_neg kk]
        show Sem.pure (Value.bool (a != b)) = _
        rfl
      · cases h; exact ⟨_, hw _ _ (by simp only [binOp, if_neg kk]; rfl), .bool _⟩
      · cases h; exact ⟨_, hw _ _ (by simp only [binOp, if_neg kk]; rfl), .bool _⟩
      · cases h; exact ⟨_, hw _ _ (by simp only [binOp, if_neg kk]; rfl), .bool _⟩
      · cases h; exact ⟨_, hw _ _ (by simp only [binOp, if_neg kk]; rfl), .bool _⟩
      · exact rest _ h
    · unfold intShift at h
      split at h <;> first | (simp only [reduceCtorEq] at h; done) | skip
      all_goals
        simp only [bnd_eq] at h
        obtain ⟨V, hV, hc⟩ := h
        exact ⟨V, pureRun_run hV w, ofCell_sound hc⟩
  · rename_i a b
    cases hx with
    | str _ s hs => cases hy with
      | str _ u hu =>
        have hg : (eqGuard op t ox oy (.string s) (.string u)).run P w = .ok () w := by
          unfold eqGuard; cases op <;> rfl
        rw [Sem.run_bind, hg, Result.andThen_ok]
        have e : binOp op t (.string s) (.string u) = Op.stringOp op s u := by cases op <;> rfl
        rw [e]
        have hw : ∀ V, Op.stringOp op s u = Sem.pure V → (Op.stringOp op s u).run P w = .ok V w := fun V e => by rw [e]; rfl
        have hlt : Op.bytesLess s.toList u.toList = bLess a b := by rw [ByteArray.toList_eq, ByteArray.toList_eq, str_lt, hs, hu]
        have heq := str_eq hs hu
        unfold strOp at h
        split at h
        · simp only [tst_eq, Nat.ble_eq, lenX_eq, Option.some.injEq] at h
          obtain ⟨hl, rfl⟩ := h
          refine ⟨.string (s ++ u), hw _ ?_, .str _ _ (by simp [hs, hu])⟩
          simp only [Op.stringOp]
          rw [if_neg (by rw [str_size hs, str_size hu]; simp [IntKind.max, IntKind.signed, IntKind.bits]; omega)]
          rfl
        · cases h; exact ⟨_, hw _ (by simp only [Op.stringOp, heq]; rfl), .bool _⟩
        · cases h; exact ⟨_, hw _ (by simp only [Op.stringOp, heq]; rfl), .bool _⟩
        · cases h; exact ⟨_, hw _ (by simp only [Op.stringOp, hlt]; rfl), .bool _⟩
        · cases h; exact ⟨_, hw _ (by simp only [Op.stringOp, hlt, heq]; rfl), .bool _⟩
        · cases h; exact ⟨_, hw _ (by simp only [Op.stringOp, hlt, heq]; rfl), .bool _⟩
        · cases h; exact ⟨_, hw _ (by simp only [Op.stringOp, hlt]; rfl), .bool _⟩
        · cases h
  · rename_i n1 n2
    have key : ∀ b, aEq P 40 t x y = some b → eqFree P t x y (isConstOp ox || isConstOp oy) = true →
        (eqGuard op t ox oy X Y).run P w = .ok () w ∧ (op = .eql → (binOp op t X Y).run P w = .ok (.bool b) w) ∧ (op = .neq → (binOp op t X Y).run P w = .ok (.bool (!b)) w) := by
      intro b hb hf
      obtain ⟨sx, sy⟩ := aEq_seen hb
      refine ⟨eqGuard_run op ox oy hx hy rfl hf hb w, ?_⟩
      refine binOp_other ?_ ?_ w (b := b) (by unfold Op.equal; exact aEq_sound 40 t x y X Y b hx hy hb _ (by simp [Op.maxDepth]) w) ?_ ?_
      · rintro ⟨k, a, k', b', rfl, rfl⟩
        have ex : x = .int k a := by cases hx <;> first | rfl | exact sx.elim
        have ey : y = .int k' b' := by cases hy <;> first | rfl | exact sy.elim
        exact n1 _ _ _ _ ex ey
      · rintro ⟨a, b', rfl, rfl⟩
        have ex : ∃ l, x = .str l := by cases hx <;> first | exact ⟨_, rfl⟩ | exact sx.elim
        have ey : ∃ l, y = .str l := by cases hy <;> first | exact ⟨_, rfl⟩ | exact sy.elim
        obtain ⟨l1, e1⟩ := ex
        obtain ⟨l2, e2⟩ := ey
        exact n2 _ _ e1 e2
      · rintro k n rfl
        cases hx <;> exact sx.elim
      · rintro k n m rfl
        cases hx <;> exact sx.elim
    unfold eqOp at h
    split at h
    · simp only [tst_eq, bnd_eq, Option.some.injEq] at h
      obtain ⟨hf, b, hb, rfl⟩ := h
      obtain ⟨g1, g2, g3⟩ := key b hb hf
      exact ⟨.bool b, by rw [Sem.run_bind, g1, Result.andThen_ok, g2 rfl], .bool b⟩
    · simp only [tst_eq, bnd_eq, Option.some.injEq] at h
      obtain ⟨hf, b, hb, rfl⟩ := h
      obtain ⟨g1, g2, g3⟩ := key b hb hf
      exact ⟨.bool (!b), by rw [Sem.run_bind, g1, Result.andThen_ok, g3 rfl], .bool (!b)⟩
    · cases h
end
end Go.AS
