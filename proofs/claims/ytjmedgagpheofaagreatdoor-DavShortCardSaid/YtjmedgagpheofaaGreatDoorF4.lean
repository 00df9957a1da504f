/- The abstract layer: the rules of the operations on memory. -/
import Derived.Test.YtjmedgagpheofaaGreatDoorF3
import Derived.Deep.AppendSrc
set_option linter.unusedSectionVars false
set_option linter.unusedVariables false
set_option linter.unusedSimpArgs false
set_option linter.constructorNameAsVariable false
namespace Go.Abs
open Go.RowKit
variable [Tabs]

def ofValues : List Value → Option (List AV)
  | [] => some []
  | v :: vs => match AV.ofValue v, ofValues vs with
    | some a, some as => some (a :: as)
    | _, _ => none
theorem ofValue_rel {G : Gh} {v : Value} {a : AV} (h : AV.ofValue v = some a) : Rv G a v := by
  unfold AV.ofValue at h
  split at h <;> simp only [Option.some.injEq, reduceCtorEq] at h <;> subst h
  · exact .bool _
  · exact .int _ _
  · exact .str _
  · exact .nilp
  · exact .nils
  · exact .nilf
  · exact .nilm
  · exact .nili
theorem ofValues_rel {G : Gh} : ∀ {vs : List Value} {as : List AV}, ofValues vs = some as → RvL G as vs
  | [], as, h => by simp only [ofValues, Option.some.injEq] at h; subst h; exact .nil
  | v :: vs, as, h => by
    simp only [ofValues] at h
    split at h
    · rename_i a as' h1 h2
      simp only [Option.some.injEq] at h; subst h
      exact .cons (ofValue_rel h1) (ofValues_rel h2)
    · simp at h

/-- A type's zero value, by its cells. -/
def zeroC (P : Program) (t : TypeId) : Option (List AV) := match (P.info? t).bind (·.zero) with
  | some z => ofValues z.cells.toList
  | none => none
theorem zeroC_run {P : Program} {t : TypeId} {cs : List AV} (h : zeroC P t = some cs) : ∃ z : Value, (∀ W, (zeroValue t).run P W = .ok z W) ∧ (∀ G, RvL G cs z.cells.toList) ∧ ∃ i, P.info? t = some i ∧ i.zero = some z := by
  unfold zeroC at h
  split at h
  · rename_i z hz
    obtain ⟨i, hi, hz⟩ := Option.bind_eq_some_iff.1 hz
    exact ⟨z, fun W => by simp [zeroValue, typeInfo, hi, hz], fun G => ofValues_rel h, i, hi, hz⟩
  · simp at h

def setCells {α : Type} : List α → Nat → List α → List α
  | cs, _, [] => cs
  | cs, i, v :: vs => setCells (cs.set i v) (i + 1) vs
theorem setCells_length {α : Type} : ∀ (vs cs : List α) (i : Nat), (setCells cs i vs).length = cs.length
  | [], _, _ => rfl
  | v :: vs, cs, i => by simp [setCells, setCells_length vs]
theorem RvL.setCells {G : Gh} : ∀ {as : List AV} {vs : List Value} {cs : List AV} {ws : List Value} (i : Nat), RvL G as vs → RvL G cs ws → RvL G (Abs.setCells cs i as) (Abs.setCells ws i vs)
  | _, _, _, _, i, .nil, h => h
  | _, _, _, _, i, .cons ha hl, h => RvL.setCells (i + 1) hl (h.set i ha)

section
variable {P : Program} {Q : APost} {s : ASt} {N : ASt → Prop} {o : Oper}

/-- A rule for an operation that turns the world. -/
theorem op_gen {o : Oper} {N : ASt → Prop} {s' : ASt} {v : AV} (hn : s'.n = s.n) (he : s'.env = s.env) (hdf : s'.defs = s.defs) (hdst : dstOK o.dst s.n = true)
    (h : ∀ G W a, RA G s a → R G s.H W → ∃ x G' W', (execOp a.eval o).run P W = .ok (.value x) W' ∧ Rv G' v x ∧ R G' s'.H W' ∧ G.le G') (hN : N (s'.put o.dst v)) : AOp P o N Q s := by
  intro G W a ra r
  obtain ⟨x, G', W', hx, hv, r', hle⟩ := h G W a ra r
  unfold Oper.wp
  rw [hx, Oper.upon_value]
  have ra' : RA G' s' a := ⟨ra.size.trans hn.symm, fun t v hv => (ra.env t v (he ▸ hv)).mono hle, hdf ▸ ra.defs.mono hle⟩
  exact ⟨_, G', hN, ra'.put (hn ▸ hdst) hv, by cases o.dst <;> exact r', hle⟩
/-- The like, nothing handed back. -/
theorem op_gen0 {o : Oper} {N : ASt → Prop} {s' : ASt} (hn : s'.n = s.n) (he : s'.env = s.env) (hdf : s'.defs = s.defs) (hdst : o.dst = none)
    (h : ∀ G W a, RA G s a → R G s.H W → ∃ G' W', (execOp a.eval o).run P W = .ok .skip W' ∧ R G' s'.H W' ∧ G.le G') (hN : N s') : AOp P o N Q s := by
  intro G W a ra r
  obtain ⟨G', W', hx, r', hle⟩ := h G W a ra r
  unfold Oper.wp
  rw [hx, Oper.upon_skip, hdst]
  exact ⟨s', G', hN, ⟨ra.size.trans hn.symm, fun t v hv => (ra.env t v (he ▸ hv)).mono hle, hdf ▸ ra.defs.mono hle⟩, r', hle⟩

theorem RO_new_cells {G : Gh} {H : List AObj} {W : World} {k : Nat} (r : R G H W) (hp : G.place k = none) (hf : ¬ G.fixed k) {cs : List AV} {vs : List Value} (hl : RvL G cs vs) (t : TypeId) :
    RO (G.withBlock k W.heap.size) (W.alloc (.cells vs.toArray t)) k (.cells t cs) :=
  ⟨W.heap.size, vs, place_withBlock, fun j => own_withBlock, hl.mono (Gh.withBlock_le hp hf), by show (W.heap.push _)[W.heap.size]? = _; simp⟩
theorem R.nf {G : Gh} {H : List AObj} {W : World} (r : R G H W) : ¬ G.fixed H.length := r.not_fixed (by simp)
theorem R.new_cells {G : Gh} {H : List AObj} {W : World} (r : R G H W) {cs : List AV} {vs : List Value} (hl : RvL G cs vs) (t : TypeId) :
    R (G.withBlock H.length W.heap.size) (H ++ [.cells t cs]) (W.alloc (.cells vs.toArray t)) ∧ G.le (G.withBlock H.length W.heap.size) :=
  r.new_last (RO_new_cells r (r.place_none (Nat.le_refl _)) r.nf hl t)

theorem op_alloc {t : TypeId} {cs : List AV} (ho : o.op = .alloc t) (hd : dstOK o.dst s.n = true) (hz : zeroC P t = some cs) (h : N (ASt.put { s with H := s.H ++ [.cells t cs] } o.dst (.ptr s.H.length 0))) : AOp P o N Q s := by
  refine op_gen (s' := { s with H := s.H ++ [.cells t cs] }) rfl rfl rfl hd (fun G W a ra r => ?_) h
  obtain ⟨z, hz1, hz2, _⟩ := zeroC_run hz
  have hnew := r.new_cells (hz2 G) t
  refine ⟨.pointer (some ⟨W.heap.size, 0, none⟩), _, _, ?_, .ptr (i := 0) (o := 0) place_withBlock, hnew.1, hnew.2⟩
  unfold execOp
  simp only [ho]
  simp [Instr.alloc, hz1, newVar, newRow]

theorem op_box {t : TypeId} {x : Operand} {v : AV} (ho : o.op = .box t x) (hd : dstOK o.dst s.n = true) (hx : s.ev x = some v) (h : N (ASt.put { s with H := s.H ++ [.cells t v.cells] } o.dst (.ptr s.H.length 0))) : AOp P o N Q s := by
  refine op_gen (s' := { s with H := s.H ++ [.cells t v.cells] }) rfl rfl rfl hd (fun G W a ra r => ?_) h
  have hnew := r.new_cells (ev_eval ra hx).cellsL t
  refine ⟨.pointer (some ⟨W.heap.size, 0, none⟩), _, _, ?_, .ptr (i := 0) (o := 0) place_withBlock, hnew.1, hnew.2⟩
  unfold execOp
  simp only [ho]
  simp [Instr.box, newVar, newRow]

theorem op_nilcheck_ptr {x : Operand} {r i : Nat} (ho : o.op = .nilCheck x) (hd : dstOK o.dst s.n = true) (hx : s.ev x = some (.ptr r i)) (h : N (s.put o.dst (.ptr r i))) : AOp P o N Q s :=
  op_val hd (fun G W a ra _ => by
    obtain ⟨b, off, hp, he⟩ := (ev_eval ra hx).ptr_inv
    refine ⟨_, ?_, he ▸ ev_eval ra hx⟩
    unfold execOp
    simp [ho, he]) h
theorem op_nilcheck_func {x : Operand} {f : FuncId} {cs : List AV} (ho : o.op = .nilCheck x) (hd : dstOK o.dst s.n = true) (hx : s.ev x = some (.func (.func f) cs)) (h : N (s.put o.dst (.func (.func f) cs))) : AOp P o N Q s :=
  op_val hd (fun G W a ra _ => by
    obtain ⟨vs, he, hp⟩ := (ev_eval ra hx).func_inv
    refine ⟨_, ?_, he ▸ ev_eval ra hx⟩
    unfold execOp
    simp [ho, he]) h

/-- Cells read. -/
theorem run_loadVar {t : TypeId} {agg : Bool} {size b off : Nat} {vs : List Value} {W : World} (ht : tyI P t agg size = true) (hs : agg = true ∨ size = 1) (hl : vs.length = size) (hc : ∀ j v, vs[j]? = some v → W.cell? ⟨b, off + j, none⟩ = some v) :
    (loadVar t ⟨b, off, none⟩).run P W = .ok (mkV agg vs) W := by
  unfold loadVar
  rw [Sem.run_bind, tyI_isAgg ht]
  cases agg with
  | true =>
    simp only [Result.andThen_ok, if_true, Sem.run_bind, tyI_size ht]
    rw [← hl, run_loadCells_list W ⟨b, off, none⟩ vs (fun j v hv => by rw [add_eq]; exact hc j v hv)]
    simp [mkV]
  | false =>
    have h1 : size = 1 := hs.resolve_left (by simp)
    subst h1
    match vs, hl with
    | [v], _ =>
      have := hc 0 v rfl
      simp [mkV] at this ⊢
      simp [this]

theorem cells_of_obj {G : Gh} {H : List AObj} {W : World} (r : R G H W) {k i n b off : Nat} {ct : TypeId} {cs : List AV} (hk : H[k]? = some (.cells ct cs)) (hp : G.place k = some (b, off)) (hn : i + n ≤ cs.length) :
    ∃ vs, RvL G ((cs.drop i).take n) vs ∧ vs.length = n ∧ ∀ j v, vs[j]? = some v → W.cell? ⟨b, off + i + j, none⟩ = some v := by
  obtain ⟨b', vs, hp', _, hl, hb⟩ := r.obj k _ hk
  rw [hp] at hp'; simp only [Option.some.injEq, Prod.mk.injEq] at hp'
  obtain ⟨rfl, rfl⟩ := hp'
  have hlen := hl.length
  refine ⟨(vs.drop i).take n, (hl.drop i).take n, by simp; omega, fun j v hv => ?_⟩
  have hj : j < n := by
    rcases Nat.lt_or_ge j n with h | h
    · exact h
    · rw [List.getElem?_eq_none (by simp; omega)] at hv; simp at hv
  rw [List.getElem?_take_of_lt hj, List.getElem?_drop] at hv
  simp only [World.cell?, hb, Nat.zero_add]
  simpa using hv

theorem op_load {t : TypeId} {x : Operand} {k i size : Nat} {agg : Bool} {ct : TypeId} {cs : List AV} (ho : o.op = .load t x) (hd : dstOK o.dst s.n = true) (ht : tyI P t agg size = true) (hs : agg = true ∨ size = 1) (hx : s.ev x = some (.ptr k i)) (hk : s.H[k]? = some (.cells ct cs)) (hn : decide (i + size ≤ cs.length) = true)
    (h : N (s.put o.dst (mkAV agg ((cs.drop i).take size)))) : AOp P o N Q s :=
  op_val hd (fun G W a ra r => by
    obtain ⟨b, off, hp, he⟩ := (ev_eval ra hx).ptr_inv
    obtain ⟨vs, hl, hlen, hc⟩ := cells_of_obj r hk hp (of_decide_eq_true hn)
    refine ⟨mkV agg vs, ?_, mkAV_rel hl⟩
    unfold execOp
    simp only [ho, he]
    simp [Instr.loadAt, Instr.sureAddr, run_loadVar ht hs hlen hc]) h

theorem op_load_imm {t : TypeId} {x : Operand} {size : Nat} {agg : Bool} {cs : List AV} (ho : o.op = .load t x) (hd : dstOK o.dst s.n = true) (ht : tyI P t agg size = true) (hs : agg = true ∨ size = 1) (hx : s.ev x = some (.iptr cs)) (hn : decide (size ≤ cs.length) = true)
    (h : N (s.put o.dst (mkAV agg (cs.take size)))) : AOp P o N Q s :=
  op_val hd (fun G W a ra r => by
    obtain ⟨vs, b, off, he, hl, hc⟩ := (ev_eval ra hx).iptr_inv
    have hn := of_decide_eq_true hn
    have hlen := hl.length
    refine ⟨mkV agg (vs.take size), ?_, mkAV_rel (hl.take size)⟩
    unfold execOp
    simp only [ho, he]
    have := run_loadVar (P := P) (W := W) (b := b) (off := off) (vs := vs.take size) ht hs (by simp; omega) (fun j v hv => by
      have hj : j < size := by
        rcases Nat.lt_or_ge j size with h | h
        · exact h
        · rw [List.getElem?_eq_none (by simp; omega)] at hv; simp at hv
      rw [List.getElem?_take_of_lt hj] at hv
      exact r.imm _ _ _ (hc j v hv))
    simp [Instr.loadAt, Instr.sureAddr, this]) h

theorem run_storeCells_obj {G : Gh} {k b off i0 : Nat} {ct : TypeId} (hp : G.place k = some (b, off)) : ∀ {as : List AV} {vs : List Value} {cs : List AV} {H : List AObj} {W : World} (i : Nat), R G H W → H[k]? = some (.cells ct cs) → RvL G as vs → as.all AV.one = true → i0 + i + as.length ≤ cs.length →
    ∃ W', (storeCells ⟨b, off + i0, none⟩ vs i).run P W = .ok () W' ∧ R G (H.set k (.cells ct (setCells cs (i0 + i) as))) W'
  | _, _, cs, H, W, i, r, hk, .nil, _, _ => ⟨W, rfl, by
      have : H.set k (.cells ct cs) = H := by
        apply List.ext_getElem?
        intro j
        by_cases e : j = k
        · subst e
          have hj : j < H.length := by
            rcases Nat.lt_or_ge j H.length with h | h
            · exact h
            · simp [List.getElem?_eq_none h] at hk
          rw [List.getElem?_set_self hj, hk]
        · rw [List.getElem?_set_ne (Ne.symm e)]
      simpa [setCells, this] using r⟩
  | a :: as, v :: vs, cs, H, W, i, r, hk, .cons ha hl, h1, hn => by
    simp only [List.all_cons, Bool.and_eq_true] at h1
    simp only [List.length_cons] at hn
    obtain ⟨hc, hf, r'⟩ := r.set_cell hk (i := i0 + i) (by omega) hp ha
    have hkl : k < H.length := by
      rcases Nat.lt_or_ge k H.length with h | h
      · exact h
      · simp [List.getElem?_eq_none h] at hk
    obtain ⟨W', hrun, r''⟩ := run_storeCells_obj (i0 := i0) hp (cs := cs.set (i0 + i) a) (i + 1) r' (by rw [List.getElem?_set_self hkl]) hl h1.2 (by simp; omega)
    refine ⟨W', ?_, ?_⟩
    · obtain ⟨u, hu⟩ := Option.ne_none_iff_exists'.1 hc
      have hst : (store ((⟨b, off + i0, none⟩ : Addr).add i) v).run P W = .ok () (W.setCell ⟨b, off + (i0 + i), none⟩ v) := by
        rw [add_eq, run_store P W _ v _ (ha.oneCell h1.1), Nat.add_assoc]
        simp [hu, hf]
      simp only [storeCells, Sem.run_bind, hst, Result.andThen_ok, hrun]
    · simpa [setCells, List.set_set, Nat.add_assoc] using r''

theorem op_store {t : TypeId} {x y : Operand} {k i size : Nat} {agg : Bool} {ct : TypeId} {cs : List AV} {v : AV} (ho : o.op = .store t x y) (hd : o.dst = none) (ht : tyI P t agg size = true) (hx : s.ev x = some (.ptr k i)) (hy : s.ev y = some v) (hk : s.H[k]? = some (.cells ct cs))
    (hv : v.cells.length = size) (h1 : v.cells.all AV.one = true) (hn : decide (i + size ≤ cs.length) = true) (h : N { s with H := s.H.set k (.cells ct (setCells cs i v.cells)) }) : AOp P o N Q s := by
  refine op_gen0 (s' := { s with H := s.H.set k (.cells ct (setCells cs i v.cells)) }) rfl rfl rfl hd (fun G W a ra r => ?_) h
  obtain ⟨b, off, hp, he⟩ := (ev_eval ra hx).ptr_inv
  have hrel := (ev_eval ra hy).cellsL
  have hn := of_decide_eq_true hn
  obtain ⟨W', hrun, r'⟩ := run_storeCells_obj (P := P) (i0 := i) hp 0 r hk hrel h1 (by omega)
  refine ⟨G, W', ?_, by simpa using r', .refl G⟩
  unfold execOp
  simp only [ho, he]
  have hsz : (a.eval y).cells.size = size := by have := hrel.length; simp at this; omega
  simp [Instr.storeAt, Instr.sureAddr, storeVar, tyI_size ht, hsz, hrun]

def fieldSize (P : Program) (t : TypeId) (f : Nat) : Option (Nat × Nat) :=
  match P.underlying t with
  | some (.struct fs) => (fs[f]?).bind fun x => (P.info? x.type).map fun i => (x.offset, i.size)
  | _ => none
theorem run_fieldAt {t : TypeId} {f off size b i : Nat} (hf : fieldSize P t f = some (off, size)) (h0 : decide (0 < size) = true) (W : World) : (Instr.fieldAt t (.pointer (some ⟨b, i, none⟩)) f).run P W = .ok (.pointer (some ⟨b, i + off, none⟩)) W := by
  have h0 := of_decide_eq_true h0
  unfold fieldSize at hf
  split at hf
  · rename_i fs hu
    obtain ⟨fd, h1, h2⟩ := Option.bind_eq_some_iff.1 hf
    obtain ⟨inf, h3, h4⟩ := Option.map_eq_some_iff.1 h2
    simp only [Prod.mk.injEq] at h4
    obtain ⟨rfl, rfl⟩ := h4
    have hz : ¬ (inf.size = 0) := by omega
    simp [Instr.fieldAt, underlying, hu, h1, Instr.sureAddr, fieldPlace, sizeOf, typeInfo, h3, hz, add_eq]
  · simp at hf
theorem op_fieldaddr {t : TypeId} {x : Operand} {f off size k i : Nat} (ho : o.op = .fieldAddr t x f) (hd : dstOK o.dst s.n = true) (hf : fieldSize P t f = some (off, size)) (h0 : decide (0 < size) = true) (hx : s.ev x = some (.ptr k i)) (h : N (s.put o.dst (.ptr k (i + off)))) : AOp P o N Q s :=
  op_val hd (fun G W a ra _ => by
    obtain ⟨b, o', hp, he⟩ := (ev_eval ra hx).ptr_inv
    refine ⟨.pointer (some ⟨b, o' + (i + off), none⟩), ?_, .ptr hp⟩
    unfold execOp
    simp only [ho, he]
    simp [run_fieldAt hf h0, Nat.add_assoc]) h
theorem op_fieldaddr_imm {t : TypeId} {x : Operand} {f off size : Nat} {cs : List AV} (ho : o.op = .fieldAddr t x f) (hd : dstOK o.dst s.n = true) (hf : fieldSize P t f = some (off, size)) (h0 : decide (0 < size) = true) (hx : s.ev x = some (.iptr cs)) (h : N (s.put o.dst (.iptr (cs.drop off)))) : AOp P o N Q s :=
  op_val hd (fun G W a ra _ => by
    obtain ⟨vs, b, o', he, hl, hc⟩ := (ev_eval ra hx).iptr_inv
    refine ⟨.pointer (some ⟨b, o' + off, none⟩), ?_, .iptr (hl.drop off) (fun j v hv => ?_)⟩
    · unfold execOp
      simp only [ho, he]
      simp [run_fieldAt hf h0]
    · rw [List.getElem?_drop] at hv
      rw [Nat.add_assoc]; exact hc _ v hv) h

/-- The cells of an element. -/
theorem flat_get : ∀ {xs : List AV} {k i : Nat} {x : AV}, (∀ y ∈ xs, y.cells.length = k) → xs[i]? = some x → ∀ j c, x.cells[j]? = some c → (xs.flatMap AV.cells)[i * k + j]? = some c
  | [], _, i, _, _, h, _, _, _ => by simp at h
  | y :: ys, k, 0, x, hk, h, j, c, hc => by
    simp only [List.getElem?_cons_zero, Option.some.injEq] at h; subst h
    simp only [List.flatMap_cons, Nat.zero_mul, Nat.zero_add]
    rw [List.getElem?_append_left]
    · exact hc
    · rcases Nat.lt_or_ge j y.cells.length with h | h
      · exact h
      · simp [List.getElem?_eq_none h] at hc
  | y :: ys, k, i + 1, x, hk, h, j, c, hc => by
    have hy := hk y (by simp)
    have ih := flat_get (xs := ys) (i := i) (fun z hz => hk z (by simp [hz])) (by simpa using h) j c hc
    simp only [List.flatMap_cons]
    rw [List.getElem?_append_right (by rw [hy, Nat.add_mul]; omega), hy, show (i + 1) * k + j - k = i * k + j by rw [Nat.add_mul]; omega]
    exact ih
theorem flat_length : ∀ {xs : List AV} {k : Nat}, (∀ y ∈ xs, y.cells.length = k) → (xs.flatMap AV.cells).length = xs.length * k
  | [], k, _ => by simp
  | y :: ys, k, hk => by
    have ih := flat_length (xs := ys) (fun z hz => hk z (by simp [hz]))
    simp only [List.flatMap_cons, List.length_append, List.length_cons, ih, hk y (by simp), Nat.add_mul]
    omega

theorem RvL.back {G : Gh} : ∀ {as : List AV} {vs : List Value}, RvL G as vs → ∀ (i : Nat) (v : Value), vs[i]? = some v → ∃ a, as[i]? = some a ∧ Rv G a v
  | _, _, .nil, i, a, h => by simp at h
  | _, _, .cons ha hl, 0, a, h => by simp at h; subst h; exact ⟨_, rfl, ha⟩
  | _, _, .cons ha hl, i + 1, a, h => by simpa using RvL.back hl i a (by simpa using h)

theorem op_indexaddr {t e : TypeId} {x y : Operand} {size : Nat} {agg : Bool} {xs : List AV} {tok : Option Nat} {kd : IntKind} {i : Nat} {v : AV} (ho : o.op = .indexAddr t x y) (hd : dstOK o.dst s.n = true) (ht : P.underlying t = some (.slice e)) (hte : tyI P e agg size = true) (hx : s.ev x = some (.lst xs tok)) (hy : s.ev y = some (.int kd i))
    (hi : xs[i]? = some v) (hv : v.cells.length = size) (h : N (s.put o.dst (.iptr v.cells))) : AOp P o N Q s :=
  op_val hd (fun G W a ra _ => by
    have hlt : i < xs.length := by
      rcases Nat.lt_or_ge i xs.length with h | h
      · exact h
      · simp [List.getElem?_eq_none h] at hi
    have hrel := ev_eval ra hx
    have hyi := (ev_eval ra hy).int_inv
    generalize he : a.eval x = z at hrel
    cases hrel with
    | lnil => simp at hi
    | @lst k _ _ vs b o' cap hl hk hc ht' hcap =>
      have hks : size = k := by rw [← hv]; exact hk v (List.mem_of_getElem? hi)
      subst hks
      refine ⟨.pointer (some ⟨b, o' + i * size, none⟩), ?_, ?_⟩
      · unfold execOp
        simp only [ho, he, hyi]
        have h2 : ((i : Int) < (xs.length : Int)) := by omega
        simp [Instr.indexAt, asIntOf, underlying, ht, h2, hlt, tyI_size hte, add_eq]
      · have hlen := hl.length
        rw [flat_length hk] at hlen
        have hbound : i * size + size ≤ xs.length * size := by rw [← Nat.succ_mul]; exact Nat.mul_le_mul_right size hlt
        have hrel' := (hl.drop (i * size)).take size
        have heq : ((xs.flatMap AV.cells).drop (i * size)).take size = v.cells := by
          apply List.ext_getElem?
          intro j
          by_cases hj : j < size
          · rw [List.getElem?_take_of_lt hj, List.getElem?_drop]
            have hjv : j < v.cells.length := by omega
            rw [flat_get hk hi j _ (List.getElem?_eq_getElem hjv), List.getElem?_eq_getElem hjv]
          · rw [List.getElem?_eq_none (by simp; omega), List.getElem?_eq_none (by omega)]
        rw [heq] at hrel'
        refine .iptr hrel' (fun j u hu => ?_)
        have hj : j < size := by
          rcases Nat.lt_or_ge j size with h | h
          · exact h
          · rw [List.getElem?_eq_none (by simp; omega)] at hu; simp at hu
        rw [List.getElem?_take_of_lt hj, List.getElem?_drop] at hu
        rw [Nat.add_assoc]; exact hc _ u hu) h
end

end Go.Abs
