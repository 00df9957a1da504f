/- The abstract layer: the operations that only compute. -/
import Derived.Test.YtjmedgagpheofaaGreatDoorF1
import Derived.Laws.Strings
set_option linter.unusedSectionVars false
set_option linter.unusedVariables false
set_option linter.unusedSimpArgs false
set_option linter.constructorNameAsVariable false
namespace Go.Abs
open Go.RowKit
variable [Tabs]

theorem mkS_toList (s : Str) : (mkS s).toList = s := by rw [ByteArray.toList_eq]; rfl
theorem mkS_size (s : Str) : (mkS s).size = s.length := rfl
theorem Rv.str_of (s : ByteArray) {G : Gh} : Rv G (.str s.data.toList) (.string s) := .str _

theorem Rv.int_inv {G : Gh} {k : IntKind} {n : Int} {x : Value} (h : Rv G (.int k n) x) : x = .int k n := by cases h; rfl
theorem Rv.bool_inv {G : Gh} {b : Bool} {x : Value} (h : Rv G (.bool b) x) : x = .bool b := by cases h; rfl
theorem Rv.str_inv {G : Gh} {s : Str} {x : Value} (h : Rv G (.str s) x) : x = .string (mkS s) := by cases h; rfl
theorem Rv.iface_inv {G : Gh} {t : TypeId} {v : AV} {x : Value} (h : Rv G (.iface t v) x) : ∃ y, x = .iface t y ∧ Rv G v y := by cases h; exact ⟨_, rfl, by assumption⟩
theorem Rv.agg_inv {G : Gh} {cs : List AV} {x : Value} (h : Rv G (.agg cs) x) : ∃ vs : List Value, x = .agg vs.toArray ∧ RvL G cs vs := by cases h; exact ⟨_, rfl, by assumption⟩
theorem Rv.tuple_inv {G : Gh} {cs : List AV} {x : Value} (h : Rv G (.tuple cs) x) : ∃ vs : List Value, x = .tuple vs.toArray ∧ RvL G cs vs := by cases h; exact ⟨_, rfl, by assumption⟩
theorem Rv.func_inv {G : Gh} {fn : Fn} {cs : List AV} {x : Value} (h : Rv G (.func fn cs) x) : ∃ vs : List Value, x = .func fn #[] vs.toArray ∧ RvL G cs vs := by cases h; exact ⟨_, rfl, by assumption⟩
theorem Rv.nili_inv {G : Gh} {x : Value} (h : Rv G .nili x) : x = .nilIface := by cases h; rfl
theorem Rv.nilp_inv {G : Gh} {x : Value} (h : Rv G .nilp x) : x = .pointer none := by cases h; rfl
theorem Rv.ptr_inv {G : Gh} {r i : Nat} {x : Value} (h : Rv G (.ptr r i) x) : ∃ b o, G.place r = some (b, o) ∧ x = .pointer (some ⟨b, o + i, none⟩) := by cases h; exact ⟨_, _, by assumption, rfl⟩
theorem Rv.mapv_inv {G : Gh} {r : Nat} {x : Value} (h : Rv G (.mapv r) x) : ∃ b, G.place r = some (b, 0) ∧ x = .map (some b) := by cases h; exact ⟨_, by assumption, rfl⟩
theorem Rv.iptr_inv {G : Gh} {cs : List AV} {x : Value} (h : Rv G (.iptr cs) x) : ∃ (vs : List Value) (b o : Nat), x = .pointer (some ⟨b, o, none⟩) ∧ RvL G cs vs ∧ ∀ j v, vs[j]? = some v → G.imm b (o + j) = some v := by
  cases h; exact ⟨_, _, _, rfl, by assumption, by assumption⟩

def evalBin : BinOp → AV → AV → Option AV
  | .add, .int k a, .int k' b => if k = k' then some (.int k (k.wrap (a + b))) else none
  | .sub, .int k a, .int k' b => if k = k' then some (.int k (k.wrap (a - b))) else none
  | .mul, .int k a, .int k' b => if k = k' then some (.int k (k.wrap (a * b))) else none
  | .eql, .int k a, .int k' b => if k = k' then some (.bool (a == b)) else none
  | .neq, .int k a, .int k' b => if k = k' then some (.bool (a != b)) else none
  | .lss, .int k a, .int k' b => if k = k' then some (.bool (decide (a < b))) else none
  | .leq, .int k a, .int k' b => if k = k' then some (.bool (decide (a ≤ b))) else none
  | .gtr, .int k a, .int k' b => if k = k' then some (.bool (decide (a > b))) else none
  | .geq, .int k a, .int k' b => if k = k' then some (.bool (decide (a ≥ b))) else none
  | .eql, .str a, .str b => some (.bool (a == b))
  | .neq, .str a, .str b => some (.bool (!(a == b)))
  | .lss, .str a, .str b => some (.bool (Op.bytesLess a b))
  | .leq, .str a, .str b => some (.bool (Op.bytesLess a b || a == b))
  | .gtr, .str a, .str b => some (.bool (!(Op.bytesLess a b || a == b)))
  | .geq, .str a, .str b => some (.bool (!(Op.bytesLess a b)))
  | _, _, _ => none

section
variable {P : Program} {Q : APost} {s : ASt} {N : ASt → Prop} {o : Oper}

theorem op_move {x : Operand} {v : AV} (ho : o.op = .move x) (hd : dstOK o.dst s.n = true) (hx : s.ev x = some v) (h : N (s.put o.dst v)) : AOp P o N Q s :=
  op_val hd (fun _ _ a ra _ => ⟨a.eval x, by unfold execOp; rw [ho]; rfl, ev_eval ra hx⟩) h
theorem op_assign {x : Operand} {v : AV} (ho : o.op = .assign x) (hd : dstOK o.dst s.n = true) (hx : s.ev x = some v) (h : N (s.put o.dst v)) : AOp P o N Q s :=
  op_val hd (fun _ _ a ra _ => ⟨a.eval x, by unfold execOp; rw [ho]; rfl, ev_eval ra hx⟩) h
theorem op_pick_t {c x y : Operand} {v : AV} (ho : o.op = .pick c x y) (hd : dstOK o.dst s.n = true) (hc : s.ev c = some (.bool true)) (hx : s.ev x = some v) (h : N (s.put o.dst v)) : AOp P o N Q s :=
  op_val hd (fun _ _ a ra _ => ⟨a.eval x, by unfold execOp; rw [ho]; simp [(ev_eval ra hc).bool_inv, asBool], ev_eval ra hx⟩) h
theorem op_pick_f {c x y : Operand} {v : AV} (ho : o.op = .pick c x y) (hd : dstOK o.dst s.n = true) (hc : s.ev c = some (.bool false)) (hy : s.ev y = some v) (h : N (s.put o.dst v)) : AOp P o N Q s :=
  op_val hd (fun _ _ a ra _ => ⟨a.eval y, by unfold execOp; rw [ho]; simp [(ev_eval ra hc).bool_inv, asBool], ev_eval ra hy⟩) h

theorem evalBin_run {G : Gh} {op : BinOp} {t : TypeId} {x y : Operand} {a b v : AV} {u w : Value} (ha : Rv G a u) (hb : Rv G b w) (h : evalBin op a b = some v) (W : World) :
    ∃ z, (do eqGuard op t x y u w; binOp op t u w : Sem Value).run P W = .ok z W ∧ Rv G v z := by
  unfold evalBin at h
  split at h <;> first
    | (split at h
       · rename_i e; subst e
         simp only [Option.some.injEq] at h; subst h
         cases ha; cases hb
         refine ⟨_, ?_, by constructor⟩
         simp [eqGuard, binOp, Op.intArith, Op.intCmp]
       · simp at h)
    | (simp only [Option.some.injEq] at h; subst h
       cases ha; cases hb
       refine ⟨_, ?_, by constructor⟩
       simp [eqGuard, binOp, Op.stringOp, mkS_toList])
    | simp at h

theorem op_bin {op : BinOp} {t u : TypeId} {x y : Operand} {a b v : AV} (ho : o.op = .binOp op t x y u) (hd : dstOK o.dst s.n = true) (hx : s.ev x = some a) (hy : s.ev y = some b) (he : evalBin op a b = some v) (h : N (s.put o.dst v)) : AOp P o N Q s :=
  op_val hd (fun G W c ra _ => by
    obtain ⟨z, hz, hr⟩ := evalBin_run (P := P) (t := t) (x := x) (y := y) (ev_eval ra hx) (ev_eval ra hy) he W
    refine ⟨z, ?_, hr⟩
    unfold execOp
    simp only [ho]
    rw [Sem.run_bind, hz]
    rfl) h

/-- '+' on strings: the sum of the lengths must be a number. -/
theorem op_cat {t u : TypeId} {x y : Operand} {a b : Str} (ho : o.op = .binOp .add t x y u) (hd : dstOK o.dst s.n = true) (hx : s.ev x = some (.str a)) (hy : s.ev y = some (.str b)) (hl : a.length + b.length ≤ 9223372036854775807) (h : N (s.put o.dst (.str (a ++ b)))) : AOp P o N Q s :=
  op_val hd (fun G W c ra _ => by
    have h1 := (ev_eval ra hx).str_inv
    have h2 := (ev_eval ra hy).str_inv
    refine ⟨.string (mkS a ++ mkS b), ?_, ?_⟩
    · unfold execOp
      simp only [ho, h1, h2]
      have : ¬ ((((mkS a).size + (mkS b).size : Nat) : Int) > IntKind.i64.max) := by
        rw [mkS_size, mkS_size, show IntKind.i64.max = 9223372036854775807 from by decide]; omega
      simp [eqGuard, binOp, Op.stringOp, this]
      rw [mkS_size, mkS_size]; omega
    · have e : mkS a ++ mkS b = mkS (a ++ b) := by
        apply ByteArray.ext
        simp [mkS]
      rw [e]; exact .str _) h

theorem op_not {t : TypeId} {x : Operand} {b : Bool} (ho : o.op = .unOp .not t x) (hd : dstOK o.dst s.n = true) (hx : s.ev x = some (.bool b)) (h : N (s.put o.dst (.bool (!b)))) : AOp P o N Q s :=
  op_val hd (fun G W c ra _ => ⟨.bool (!b), by unfold execOp; simp only [ho, (ev_eval ra hx).bool_inv]; rfl, .bool _⟩) h

theorem op_extract {x : Operand} {i : Nat} {vs : List AV} {v : AV} (ho : o.op = .extract x i) (hd : dstOK o.dst s.n = true) (hx : s.ev x = some (.tuple vs)) (hi : vs[i]? = some v) (h : N (s.put o.dst v)) : AOp P o N Q s :=
  op_val hd (fun G W c ra _ => by
    obtain ⟨ws, hw, hl⟩ := (ev_eval ra hx).tuple_inv
    obtain ⟨z, hz, hr⟩ := hl.get i v hi
    refine ⟨z, ?_, hr⟩
    unfold execOp
    simp only [ho, hw]
    simp [Instr.extract, hz]) h

def ifaceD : TypeDesc → Bool
  | .interface _ => true
  | _ => false

theorem op_iface {t : TypeId} {x : Operand} {v : AV} (ho : o.op = .makeInterface t x) (hd : dstOK o.dst s.n = true) (ht : (P.underlying t).map ifaceD = some false) (hx : s.ev x = some v) (h : N (s.put o.dst (.iface t v))) : AOp P o N Q s :=
  op_val hd (fun G W c ra _ => by
    refine ⟨.iface t (c.eval x), ?_, .iface (ev_eval ra hx)⟩
    unfold execOp
    simp only [ho]
    obtain ⟨d, hd, he⟩ := Option.map_eq_some_iff.1 ht
    cases d <;> first
      | (simp [Instr.makeInterface, underlying, hd]; done)
      | (simp [ifaceD] at he; done)) h

def evs (s : ASt) : List Operand → Option (List AV)
  | [] => some []
  | x :: xs => match s.ev x, evs s xs with
    | some v, some vs => some (v :: vs)
    | _, _ => none

theorem evs_eval {G : Gh} {a : Act} (ra : RA G s a) : ∀ {xs : List Operand} {vs : List AV}, evs s xs = some vs → RvL G vs (xs.map a.eval)
  | [], vs, h => by simp only [evs, Option.some.injEq] at h; subst h; exact .nil
  | x :: xs, vs, h => by
    simp only [evs] at h
    split at h
    · rename_i v us h1 h2
      simp only [Option.some.injEq] at h; subst h
      exact .cons (ev_eval ra h1) (evs_eval ra h2)
    · simp at h

theorem op_func {fn : Fn} {cap : Array Operand} {vs : List AV} (ho : o.op = .makeFunc fn #[] cap) (hd : dstOK o.dst s.n = true) (hx : evs s cap.toList = some vs) (h : N (s.put o.dst (.func fn vs))) : AOp P o N Q s :=
  op_val hd (fun G W c ra _ => by
    refine ⟨.func fn #[] (cap.toList.map c.eval).toArray, ?_, .func (evs_eval ra hx)⟩
    unfold execOp
    simp only [ho]
    have : (cap.toList.map c.eval).toArray = cap.map c.eval := by rw [← Array.toList_map]
    rw [this]
    simp [Instr.makeFunc]) h

/-- What is known of a type. -/
def aggD : TypeDesc → Bool
  | .struct _ | .array _ _ => true
  | _ => false
def tyI (P : Program) (t : TypeId) (agg : Bool) (size : Nat) : Bool :=
  match P.underlying t, P.info? t with
  | some d, some i => aggD d == agg && i.size == size
  | _, _ => false
theorem tyI_isAgg {t : TypeId} {agg : Bool} {size : Nat} (h : tyI P t agg size = true) (W : World) : (isAgg t).run P W = .ok agg W := by
  unfold tyI at h
  split at h
  · rename_i d i hd hi
    simp only [Bool.and_eq_true, beq_iff_eq] at h
    rw [← h.1]
    cases d <;> simp [isAgg, underlying, hd, aggD]
  · simp at h
theorem tyI_size {t : TypeId} {agg : Bool} {size : Nat} (h : tyI P t agg size = true) (W : World) : (sizeOf t).run P W = .ok size W := by
  unfold tyI at h
  split at h
  · rename_i d i hd hi
    simp only [Bool.and_eq_true, beq_iff_eq] at h
    rw [← h.2]
    simp [sizeOf, typeInfo, hi]
  · simp at h

/-- A value of a type out of its cells. -/
def mkAV (agg : Bool) (cs : List AV) : AV := if agg then .agg cs else cs.headD (.tuple [])
def mkV (agg : Bool) (vs : List Value) : Value := if agg then .agg vs.toArray else vs.headD (.tuple #[])
theorem mkAV_rel {G : Gh} {agg : Bool} {cs : List AV} {vs : List Value} (h : RvL G cs vs) : Rv G (mkAV agg cs) (mkV agg vs) := by
  cases agg with
  | true => exact .agg h
  | false => cases h with
    | nil => exact .tuple .nil
    | cons ha hl => exact ha

def fieldOf (P : Program) (t : TypeId) (f : Nat) : Option (TypeId × Nat) :=
  match P.underlying t with
  | some (.struct fs) => (fs[f]?).map fun x => (x.type, x.offset)
  | _ => none

theorem part_run {t : TypeId} {agg : Bool} {size off : Nat} {vs : List Value} (ht : tyI P t agg size = true) (hs : agg = false → size = 1) (hl : off + size ≤ vs.length) (W : World) :
    (part t vs.toArray off).run P W = .ok (mkV agg ((vs.drop off).take size)) W := by
  unfold part
  rw [Sem.run_bind, tyI_isAgg ht]
  cases agg with
  | true =>
    simp only [Result.andThen_ok, if_true]
    simp only [Sem.run_bind, tyI_size ht, Result.andThen_ok, Sem.run_pure]
    congr 2
    apply Array.ext'
    simp [mkV, List.extract_eq_take_drop]
  | false =>
    have h1 := hs rfl; subst h1
    have hlt : off < vs.length := by omega
    have e1 : vs.toArray[off]? = some vs[off] := by rw [List.getElem?_toArray, List.getElem?_eq_getElem hlt]
    have e2 : mkV false ((vs.drop off).take 1) = vs[off] := by rw [List.drop_eq_getElem_cons hlt]; rfl
    rw [e2]
    simp only [Result.andThen_ok, Bool.false_eq_true, if_false, e1, Sem.run_pure]

theorem op_field {t : TypeId} {x : Operand} {f ft off size : Nat} {agg : Bool} {cs : List AV} (ho : o.op = .field t x f) (hd : dstOK o.dst s.n = true) (hf : fieldOf P t f = some (ft, off)) (ht : tyI P ft agg size = true) (hs : agg = true ∨ size = 1)
    (hx : s.ev x = some (.agg cs)) (hl : decide (off + size ≤ cs.length) = true) (h : N (s.put o.dst (mkAV agg ((cs.drop off).take size)))) : AOp P o N Q s :=
  op_val hd (fun G W c ra _ => by
    obtain ⟨vs, hv, hrel⟩ := (ev_eval ra hx).agg_inv
    have hlen := hrel.length
    have hl := of_decide_eq_true hl
    refine ⟨mkV agg ((vs.drop off).take size), ?_, mkAV_rel ((hrel.drop off).take size)⟩
    unfold fieldOf at hf
    split at hf
    · rename_i fs hu
      obtain ⟨fd, hfd, he⟩ := Option.map_eq_some_iff.1 hf
      simp only [Prod.mk.injEq] at he
      obtain ⟨rfl, rfl⟩ := he
      have hs' : agg = false → size = 1 := fun e => hs.resolve_left (by rw [e]; simp)
      have hl' : fd.offset + size ≤ vs.length := by omega
      have hp := part_run (P := P) (vs := vs) ht hs' hl' W
      unfold execOp
      simp only [ho, hv]
      simp [Instr.field, underlying, hu, hfd, asAgg, hp]
    · simp at hf) h

/-- The length of a string, of a slice. -/
theorem op_len_s {t : TypeId} {x : Operand} {l : Str} (ho : o.op = .call { callee := .builtin .len, args := #[x], argTypes := #[t] }) (hd : dstOK o.dst s.n = true) (ht : P.underlying t = some .string) (hx : s.ev x = some (.str l)) (h : N (s.put o.dst (.int .i64 l.length))) : AOp P o N Q s :=
  op_val hd (fun G W c ra _ => ⟨.int .i64 l.length, by
    unfold execOp
    simp only [ho]
    simp [resolve, invoke, builtin, Builtin.len_, underlying, ht, (ev_eval ra hx).str_inv, goInt, mkS_size], .int _ _⟩) h
theorem op_len_l {t e : TypeId} {x : Operand} {l : List AV} {tok : Option Nat} (ho : o.op = .call { callee := .builtin .len, args := #[x], argTypes := #[t] }) (hd : dstOK o.dst s.n = true) (ht : P.underlying t = some (.slice e)) (hx : s.ev x = some (.lst l tok)) (h : N (s.put o.dst (.int .i64 l.length))) : AOp P o N Q s :=
  op_val hd (fun G W c ra _ => ⟨.int .i64 l.length, by
    have hv := ev_eval ra hx
    unfold execOp
    simp only [ho]
    generalize he : c.eval x = z at hv
    cases hv <;> simp [resolve, invoke, builtin, Builtin.len_, underlying, ht, goInt, he], .int _ _⟩) h

/-- A byte of a string. -/
theorem op_index_s {t : TypeId} {x y : Operand} {l : Str} {k : IntKind} {i : Int} {c : UInt8} (ho : o.op = .index t x y) (hd : dstOK o.dst s.n = true) (ht : P.underlying t = some .string) (hx : s.ev x = some (.str l)) (hy : s.ev y = some (.int k i)) (h0 : 0 ≤ i) (hi : l[i.toNat]? = some c)
    (h : N (s.put o.dst (.int .u8 c.toNat))) : AOp P o N Q s :=
  op_val hd (fun G W a ra _ => ⟨.int .u8 c.toNat, by
    have e : (mkS l)[i.toNat]? = some c := by
      have hlt : i.toNat < l.length := by
        rcases Nat.lt_or_ge i.toNat l.length with h | h
        · exact h
        · simp [List.getElem?_eq_none h] at hi
      have : i.toNat < (mkS l).size := hlt
      rw [getElem?_pos (mkS l) i.toNat this]
      have e2 : some l[i.toNat] = some c := (List.getElem?_eq_getElem hlt).symm.trans hi
      exact e2
    unfold execOp
    simp only [ho]
    simp [Instr.index, asIntOf, underlying, ht, (ev_eval ra hx).str_inv, (ev_eval ra hy).int_inv, h0, e], .int _ _⟩) h

/-- A panic of the text's own. -/
theorem op_panic {x : Operand} {t : TypeId} {v : AV} (ho : o.op = .panic x) (hx : s.ev x = some (.iface t v)) (h : Q (.panic (.iface t v)) s) : AOp P o N Q s := by
  intro G W a ra r
  obtain ⟨y, hy, hv⟩ := (ev_eval ra hx).iface_inv
  unfold Oper.wp
  have : (execOp a.eval o).run P W = .halt (.panic (.iface t y)) W := by
    unfold execOp
    simp only [ho, hy]
    simp [Instr.panic]
  rw [this, Oper.upon_panic]
  exact ⟨_, s, G, h, .panic (.iface hv), ra, r, .refl G⟩

/-- A conversion between names of one kind. -/
theorem op_conv_s {t u : TypeId} {x : Operand} {l : Str} (ho : o.op = .convert t u x) (hd : dstOK o.dst s.n = true) (ht : P.underlying t = some .string) (hu : P.underlying u = some .string) (hx : s.ev x = some (.str l)) (h : N (s.put o.dst (.str l))) : AOp P o N Q s :=
  op_val hd (fun G W a ra _ => ⟨.string (mkS l), by
    unfold execOp
    simp only [ho]
    simp [convert, underlying, ht, hu, (ev_eval ra hx).str_inv], .str _⟩) h
theorem op_conv_i {t u : TypeId} {x : Operand} {k k' j : IntKind} {i : Int} (ho : o.op = .convert t u x) (hd : dstOK o.dst s.n = true) (ht : P.underlying t = some (.int j)) (hu : P.underlying u = some (.int k)) (hx : s.ev x = some (.int k' i)) (h : N (s.put o.dst (.int k (k.wrap i)))) : AOp P o N Q s :=
  op_val hd (fun G W a ra _ => ⟨.int k (k.wrap i), by
    unfold execOp
    simp only [ho]
    simp [convert, underlying, ht, hu, (ev_eval ra hx).int_inv, Conv.intToInt], .int _ _⟩) h

theorem run_sliceBound {k : IntKind} {a y : Nat} {code : BoundsCode} (h : a ≤ y) (W : World) : (Instr.sliceBound (.int k a) y code).run P W = .ok a W := by
  unfold Instr.sliceBound
  have h1 : (0 : Int) ≤ (a : Int) ∧ (a : Int) ≤ (y : Int) := ⟨by omega, by omega⟩
  simp [asIntOf, h]

theorem mkS_extract (l : Str) (a b : Nat) : (mkS l).extract a b = mkS ((l.drop a).take (b - a)) := by
  apply ByteArray.ext
  apply Array.ext'
  simp [mkS, List.extract_eq_take_drop]

/-- A part of a string. -/
theorem op_slice_s2 {t : TypeId} {x y z : Operand} {k k' : IntKind} {l : Str} {a b : Nat} (ho : o.op = .slice t x (some y) (some z) none) (hd : dstOK o.dst s.n = true) (ht : P.underlying t = some .string) (hx : s.ev x = some (.str l))
    (hy : s.ev y = some (.int k a)) (hz : s.ev z = some (.int k' b)) (hab : a ≤ b) (hb : b ≤ l.length) (h : N (s.put o.dst (.str ((l.drop a).take (b - a))))) : AOp P o N Q s :=
  op_val hd (fun G W c ra _ => by
    refine ⟨.string ((mkS l).extract a b), ?_, by rw [mkS_extract]; exact .str _⟩
    unfold execOp
    simp only [ho]
    simp [Instr.sliceAt, Instr.slice, underlying, ht, (ev_eval ra hx).str_inv, (ev_eval ra hy).int_inv, (ev_eval ra hz).int_inv, Instr.sliceBounds, mkS_size, run_sliceBound hab, run_sliceBound hb]) h
theorem op_slice_s1 {t : TypeId} {x y : Operand} {k : IntKind} {l : Str} {a : Nat} (ho : o.op = .slice t x (some y) none none) (hd : dstOK o.dst s.n = true) (ht : P.underlying t = some .string) (hx : s.ev x = some (.str l))
    (hy : s.ev y = some (.int k a)) (hab : a ≤ l.length) (h : N (s.put o.dst (.str (l.drop a)))) : AOp P o N Q s :=
  op_val hd (fun G W c ra _ => by
    refine ⟨.string ((mkS l).extract a l.length), ?_, by rw [mkS_extract, List.take_of_length_le (by simp)]; exact .str _⟩
    unfold execOp
    simp only [ho]
    simp [Instr.sliceAt, Instr.slice, underlying, ht, (ev_eval ra hx).str_inv, (ev_eval ra hy).int_inv, Instr.sliceBounds, mkS_size, run_sliceBound hab]) h
theorem op_slice_s0 {t : TypeId} {x z : Operand} {k : IntKind} {l : Str} {b : Nat} (ho : o.op = .slice t x none (some z) none) (hd : dstOK o.dst s.n = true) (ht : P.underlying t = some .string) (hx : s.ev x = some (.str l))
    (hz : s.ev z = some (.int k b)) (hb : b ≤ l.length) (h : N (s.put o.dst (.str (l.take b)))) : AOp P o N Q s :=
  op_val hd (fun G W c ra _ => by
    refine ⟨.string ((mkS l).extract 0 b), ?_, by rw [mkS_extract]; exact .str _⟩
    unfold execOp
    simp only [ho]
    simp [Instr.sliceAt, Instr.slice, underlying, ht, (ev_eval ra hx).str_inv, (ev_eval ra hz).int_inv, Instr.sliceBounds, mkS_size, run_sliceBound hb]) h
end

end Go.Abs
