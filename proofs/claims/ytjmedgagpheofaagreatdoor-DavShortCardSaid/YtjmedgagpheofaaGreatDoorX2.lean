/- The abstract layer: more rules of operations (literals of slices, assertions of types, nil). -/
import Derived.Test.YtjmedgagpheofaaGreatDoorX1
set_option linter.unusedSectionVars false
set_option linter.unusedVariables false
set_option linter.unusedSimpArgs false
set_option linter.constructorNameAsVariable false
namespace Go.Abs
open Go.RowKit
variable [Tabs]

section
variable {P : Program} {Q : APost} {s : ASt} {N : ASt → Prop} {o : Oper}

theorem op_nilcheck_iptr {x : Operand} {cs : List AV} (ho : o.op = .nilCheck x) (hd : dstOK o.dst s.n = true) (hx : s.ev x = some (.iptr cs)) (h : N (s.put o.dst (.iptr cs))) : AOp P o N Q s :=
  op_val hd (fun G W a ra _ => by
    obtain ⟨vs, b, o', he, _⟩ := (ev_eval ra hx).iptr_inv
    refine ⟨_, ?_, he ▸ ev_eval ra hx⟩
    unfold execOp
    simp [ho, he]) h
theorem op_len_nils {t e : TypeId} {x : Operand} (ho : o.op = .call { callee := .builtin .len, args := #[x], argTypes := #[t] }) (hd : dstOK o.dst s.n = true) (ht : P.underlying t = some (.slice e)) (hx : s.ev x = some .nils) (h : N (s.put o.dst (.int .i64 0))) : AOp P o N Q s :=
  op_val hd (fun G W c ra _ => ⟨.int .i64 0, by
    have hv := ev_eval ra hx
    unfold execOp
    simp only [ho]
    generalize he : c.eval x = z at hv
    cases hv; simp [resolve, invoke, builtin, Builtin.len_, underlying, ht, goInt, he], .int _ _⟩) h
theorem op_neg {t : TypeId} {x : Operand} {k : IntKind} {i : Int} (ho : o.op = .unOp .neg t x) (hd : dstOK o.dst s.n = true) (hx : s.ev x = some (.int k i)) (h : N (s.put o.dst (.int k (k.wrap (0 - i))))) : AOp P o N Q s :=
  op_val hd (fun G W c ra _ => ⟨.int k (k.wrap (0 - i)), by unfold execOp; simp only [ho, (ev_eval ra hx).int_inv]; simp [Op.unary, Op.intArith], .int _ _⟩) h
theorem op_bool_eq {t u : TypeId} {x y : Operand} {a b : Bool} (ho : o.op = .binOp .eql t x y u) (hd : dstOK o.dst s.n = true) (ht : P.underlying t = some .bool) (hx : s.ev x = some (.bool a)) (hy : s.ev y = some (.bool b)) (h : N (s.put o.dst (.bool (a == b)))) : AOp P o N Q s :=
  op_val hd (fun G W c ra _ => ⟨.bool (a == b), by
    have e : ∀ n, (Op.equalIn (n + 1) t (.bool a) (.bool b)).run P W = .ok (a == b) W := by intro n; simp [Op.equalIn, underlying, ht]
    have e' : (Op.equal t (.bool a) (.bool b)).run P W = .ok (a == b) W := e 9999
    unfold execOp
    simp only [ho, (ev_eval ra hx).bool_inv, (ev_eval ra hy).bool_inv]
    simp only [eqGuard, binOp]
    simp [e'], .bool _⟩) h
theorem op_bool_ne {t u : TypeId} {x y : Operand} {a b : Bool} (ho : o.op = .binOp .neq t x y u) (hd : dstOK o.dst s.n = true) (ht : P.underlying t = some .bool) (hx : s.ev x = some (.bool a)) (hy : s.ev y = some (.bool b)) (h : N (s.put o.dst (.bool (!(a == b))))) : AOp P o N Q s :=
  op_val hd (fun G W c ra _ => ⟨.bool (!(a == b)), by
    have e : ∀ n, (Op.equalIn (n + 1) t (.bool a) (.bool b)).run P W = .ok (a == b) W := by intro n; simp [Op.equalIn, underlying, ht]
    have e' : (Op.equal t (.bool a) (.bool b)).run P W = .ok (a == b) W := e 9999
    unfold execOp
    simp only [ho, (ev_eval ra hx).bool_inv, (ev_eval ra hy).bool_inv]
    simp only [eqGuard, binOp]
    simp [e'], .bool _⟩) h

/-- A type's zero value. -/
def zeroA (P : Program) (t : TypeId) : Option AV := match (P.info? t).bind (·.zero) with
  | some (.agg cs) => match ofValues cs.toList with
    | some l => some (.agg l)
    | none => none
  | some z => AV.ofValue z
  | none => none
theorem zeroA_run {t : TypeId} {v : AV} (h : zeroA P t = some v) : ∃ z : Value, (∀ W, (zeroValue t).run P W = .ok z W) ∧ ∀ G, Rv G v z := by
  unfold zeroA at h
  split at h
  · rename_i cs hz
    obtain ⟨i, hi, hz⟩ := Option.bind_eq_some_iff.1 hz
    split at h
    · rename_i l hl
      simp only [Option.some.injEq] at h; subst h
      refine ⟨.agg cs, fun W => by simp [zeroValue, typeInfo, hi, hz], fun G => ?_⟩
      exact .agg (vs := cs.toList) (ofValues_rel hl)
    · simp at h
  · rename_i z _ hz
    obtain ⟨i, hi, hz⟩ := Option.bind_eq_some_iff.1 hz
    exact ⟨z, fun W => by simp [zeroValue, typeInfo, hi, hz], fun G => ofValue_rel h⟩
  · simp at h

/-- The assertion of a type that is no interface. -/
theorem op_assert_is {x : Operand} {xt at_ : TypeId} {ok : Bool} {v : AV} (ho : o.op = .typeAssert x xt at_ ok) (hd : dstOK o.dst s.n = true) (ht : (P.underlying at_).map ifaceD = some false) (hx : s.ev x = some (.iface at_ v)) (h : N (s.put o.dst (if ok then .tuple [v, .bool true] else v))) : AOp P o N Q s :=
  op_val hd (fun G W c ra _ => by
    obtain ⟨y, hy, hv⟩ := (ev_eval ra hx).iface_inv
    refine ⟨if ok then .tuple #[y, .bool true] else y, ?_, ?_⟩
    · unfold execOp
      simp only [ho, hy]
      obtain ⟨d, hd, hi⟩ := Option.map_eq_some_iff.1 ht
      cases d <;> simp [ifaceD] at hi <;> cases ok <;> simp [Instr.typeAssert, underlying, hd]
    · cases ok with
      | true => exact .tuple (vs := [y, .bool true]) (.cons hv (.cons (.bool _) .nil))
      | false => exact hv) h
theorem op_assert_not {x : Operand} {xt at_ : TypeId} {v z : AV} (ho : o.op = .typeAssert x xt at_ true) (hd : dstOK o.dst s.n = true) (ht : (P.underlying at_).map ifaceD = some false) (hz : zeroA P at_ = some z) (hx : s.ev x = some v) (hv : v = .nili ∨ ∃ t w, v = .iface t w ∧ t ≠ at_) (h : N (s.put o.dst (.tuple [z, .bool false]))) : AOp P o N Q s :=
  op_val hd (fun G W c ra _ => by
    obtain ⟨zv, hz1, hz2⟩ := zeroA_run hz
    refine ⟨.tuple #[zv, .bool false], ?_, .tuple (vs := [zv, .bool false]) (.cons (hz2 G) (.cons (.bool _) .nil))⟩
    unfold execOp
    obtain ⟨d, hd, hi⟩ := Option.map_eq_some_iff.1 ht
    rcases hv with rfl | ⟨t, w, rfl, hne⟩
    · simp only [ho, (ev_eval ra hx).nili_inv]
      cases d <;> simp [ifaceD] at hi <;> simp [Instr.typeAssert, underlying, hd, hz1]
    · obtain ⟨y, hy, _⟩ := (ev_eval ra hx).iface_inv
      simp only [ho, hy]
      cases d <;> simp [ifaceD] at hi <;> simp [Instr.typeAssert, underlying, hd, hz1, hne]) h
end
end Go.Abs
