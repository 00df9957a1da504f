/- The abstract layer, made to run: operations that read no object. -/
import Derived.Test.YtjmedgagpheofaaGreatDoorX3
set_option linter.unusedSectionVars false
set_option linter.unusedVariables false
set_option linter.unusedSimpArgs false
set_option linter.constructorNameAsVariable false
namespace Go.Abs
open Go.RowKit
variable [Tabs]

/-! ### Values worked out -/
def forceI : Int → Option Int
  | .ofNat 0 => some 0
  | .ofNat (n + 1) => some (.ofNat (n + 1))
  | .negSucc 0 => some (.negSucc 0)
  | .negSucc (n + 1) => some (.negSucc (n + 1))
theorem forceI_eq {a b : Int} (h : forceI a = some b) : a = b := by
  unfold forceI at h
  split at h <;> simp only [Option.some.injEq] at h <;> subst h <;> rfl
def forceB : Bool → Option Bool
  | true => some true
  | false => some false
theorem forceB_eq {a b : Bool} (h : forceB a = some b) : a = b := by cases a <;> simp [forceB] at h <;> exact h.symm
def forceV : AV → Option AV
  | .int k n => match forceI n with
    | some m => some (.int k m)
    | none => none
  | .bool b => match b with
    | true => some (.bool true)
    | false => some (.bool false)
  | .str l => match force l with
    | some m => some (.str m)
    | none => none
  | .lst xs tok => match force xs with
    | some m => some (.lst m tok)
    | none => none
  | v => some v
theorem forceV_eq {a b : AV} (h : forceV a = some b) : a = b := by
  unfold forceV at h
  split at h
  · split at h
    · rename_i hi; simp only [Option.some.injEq] at h; subst h; rw [forceI_eq hi]
    · simp at h
  · split at h <;> simpa using h
  · split at h
    · rename_i hi; simp only [Option.some.injEq] at h; subst h; rw [force_eq hi]
    · simp at h
  · split at h
    · rename_i hi; simp only [Option.some.injEq] at h; subst h; rw [force_eq hi]
    · simp at h
  · simpa using h

/-- A type's kind and size. -/
def xTy (P : Program) (t : TypeId) : Option (Bool × Nat) :=
  match P.underlying t, P.info? t with
  | some d, some i => some (aggD d, i.size)
  | _, _ => none
theorem xTy_ok {P : Program} {t : TypeId} {agg : Bool} {size : Nat} (h : xTy P t = some (agg, size)) : tyI P t agg size = true := by
  unfold xTy at h
  split at h
  · rename_i d i h1 h2
    simp only [Option.some.injEq, Prod.mk.injEq] at h
    simp [tyI, h1, h2, h.1, h.2]
  · simp at h

/-! ### Two operands -/
def xNil (P : Program) (op : BinOp) (t : TypeId) (a : AV) : Operand → Option AV
  | .const c => match P.underlying t with
    | some d => match isNil d a c with
      | some b => match op with
        | .eql => some (.bool b)
        | .neq => some (.bool (!b))
        | _ => none
      | none => none
    | none => none
  | _ => none
def xBool (P : Program) (op : BinOp) (t : TypeId) (a b : Bool) : Option AV :=
  match P.underlying t with
  | some .bool => match op with
    | .eql => some (.bool (a == b))
    | .neq => some (.bool (!(a == b)))
    | _ => none
  | _ => none
def xBin (P : Program) (op : BinOp) (t : TypeId) (a : AV) (y : Operand) (b : Option AV) : Option AV :=
  match a, b with
  | .str l, some (.str m) => match op with
    | .add => bif Nat.ble (l.length + m.length) 9223372036854775807 then some (.str (l ++ m)) else none
    | _ => evalBin op (.str l) (.str m)
  | .int k i, some (.int k' j) => match evalBin op (.int k i) (.int k' j) with
    | some v => some v
    | none => evalInt op k i k' j
  | .bool x, some (.bool z) => xBool P op t x z
  | _, _ => xNil P op t a y

section
variable {P : Program} {Q : APost} {s : ASt} {N : ASt → Prop} {o : Oper} {E : Env}

theorem xNil_ok {op : BinOp} {t u : TypeId} {x y : Operand} {a v : AV} (ho : o.op = .binOp op t x y u) (hd : dstOK o.dst s.n = true) (hx : s.ev x = some a) (h : xNil P op t a y = some v) (hN : N (s.put o.dst v)) : AOp P o N Q s := by
  unfold xNil at h
  split at h
  · rename_i c
    split at h
    · rename_i d hdsc
      split at h
      · rename_i b hb
        split at h <;> simp only [Option.some.injEq, reduceCtorEq] at h
        · subst h
          exact op_val hd (fun G W ac ra _ => ⟨.bool b, by
            have := (isNil_run (P := P) (x := x) hdsc (ev_eval ra hx) hb W).1
            unfold execOp
            simp only [ho]
            rw [Sem.run_bind, show ac.eval (.const c) = c from rfl, this]; rfl, .bool _⟩) hN
        · subst h
          exact op_val hd (fun G W ac ra _ => ⟨.bool (!b), by
            have := (isNil_run (P := P) (x := x) hdsc (ev_eval ra hx) hb W).2
            unfold execOp
            simp only [ho]
            rw [Sem.run_bind, show ac.eval (.const c) = c from rfl, this]; rfl, .bool _⟩) hN
      · simp at h
    · simp at h
  · simp at h

theorem xBin_ok {op : BinOp} {t u : TypeId} {x y : Operand} {a v : AV} {b : Option AV} (ho : o.op = .binOp op t x y u) (hd : dstOK o.dst s.n = true) (hx : s.ev x = some a) (hy : ∀ b', b = some b' → s.ev y = some b') (h : xBin P op t a y b = some v) (hN : N (s.put o.dst v)) : AOp P o N Q s := by
  unfold xBin at h
  split at h
  · rename_i l m
    have hy := hy _ rfl
    split at h
    · cases hb : Nat.ble (l.length + m.length) 9223372036854775807 with
      | false => rw [hb] at h; simp at h
      | true =>
        rw [hb] at h
        simp only [cond_true, Option.some.injEq] at h; subst h
        exact op_cat ho hd hx hy (Nat.le_of_ble_eq_true hb) hN
    · exact op_bin ho hd hx hy h hN
  · rename_i k i k' j
    have hy := hy _ rfl
    split at h
    · rename_i w hw
      simp only [Option.some.injEq] at h; subst h
      exact op_bin ho hd hx hy hw hN
    · refine op_val hd (fun G W c ra _ => ?_) hN
      obtain ⟨z, hz, hr⟩ := evalInt_run (P := P) (t := t) (x := x) (y := y) (G := G) h W
      refine ⟨z, ?_, hr⟩
      unfold execOp
      simp only [ho, (ev_eval ra hx).int_inv, (ev_eval ra hy).int_inv]
      rw [Sem.run_bind, hz]
      rfl
  · have hy := hy _ rfl
    unfold xBool at h
    split at h
    · rename_i hty
      split at h <;> simp only [Option.some.injEq, reduceCtorEq] at h <;> subst h
      · exact op_bool_eq ho hd hty hx hy hN
      · exact op_bool_ne ho hd hty hx hy hN
    · simp at h
  · exact xNil_ok ho hd hx h hN
end
end Go.Abs
