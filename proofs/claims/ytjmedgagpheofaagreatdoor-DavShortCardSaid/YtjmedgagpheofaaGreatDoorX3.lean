/- The abstract layer: literals of slices. -/
import Derived.Test.YtjmedgagpheofaaGreatDoorX2
set_option linter.unusedSectionVars false
set_option linter.unusedVariables false
set_option linter.unusedSimpArgs false
set_option linter.constructorNameAsVariable false
namespace Go.Abs
open Go.RowKit
variable [Tabs]

/-- Cells, so many at a time, as elements. -/
def chunks (agg : Bool) (k : Nat) : Nat → List AV → List AV
  | 0, _ => []
  | n + 1, cs => mkAV agg (cs.take k) :: chunks agg k n (cs.drop k)
theorem chunks_length (agg : Bool) (k : Nat) : ∀ (n : Nat) (cs : List AV), (chunks agg k n cs).length = n
  | 0, _ => rfl
  | n + 1, cs => by simp [chunks, chunks_length agg k n]
theorem mkAV_cells {agg : Bool} {k : Nat} {cs : List AV} (hk : agg = true ∨ k = 1) (h1 : agg = true ∨ cs.all AV.one = true) (hl : cs.length = k) : (mkAV agg cs).cells = cs := by
  cases agg with
  | true => rfl
  | false =>
    have hk := hk.resolve_left (by simp)
    have h1 := h1.resolve_left (by simp)
    subst hk
    match cs, hl with
    | [c], _ =>
      simp only [List.all_cons, List.all_nil, Bool.and_true] at h1
      cases c <;> first | rfl | (simp [AV.one] at h1)
theorem chunks_flat {agg : Bool} {k : Nat} (hk : agg = true ∨ k = 1) : ∀ (n : Nat) (cs : List AV), (agg = true ∨ cs.all AV.one = true) → cs.length = n * k → (chunks agg k n cs).flatMap AV.cells = cs
  | 0, cs, _, hl => by
    have : cs = [] := List.length_eq_zero_iff.1 (by simpa using hl)
    subst this; rfl
  | n + 1, cs, h1, hl => by
    rw [Nat.succ_mul] at hl
    have ht : (cs.take k).length = k := by simp; omega
    have hall : ∀ l : List AV, (∀ x ∈ l, x ∈ cs) → agg = true ∨ l.all AV.one = true := by
      intro l hm
      rcases h1 with h1 | h1
      · exact .inl h1
      · refine .inr (List.all_eq_true.2 fun x hx => List.all_eq_true.1 h1 x (hm x hx))
    simp only [chunks, List.flatMap_cons]
    rw [mkAV_cells hk (hall _ fun x hx => List.mem_of_mem_take hx) ht, chunks_flat hk n (cs.drop k) (hall _ fun x hx => List.mem_of_mem_drop hx) (by simp; omega), List.take_append_drop]
theorem chunks_k {agg : Bool} {k : Nat} (hk : agg = true ∨ k = 1) : ∀ (n : Nat) (cs : List AV), (agg = true ∨ cs.all AV.one = true) → cs.length = n * k → ∀ x ∈ chunks agg k n cs, x.cells.length = k
  | 0, _, _, _, x, hx => by simp [chunks] at hx
  | n + 1, cs, h1, hl, x, hx => by
    rw [Nat.succ_mul] at hl
    have ht : (cs.take k).length = k := by simp; omega
    have hall : ∀ l : List AV, (∀ x ∈ l, x ∈ cs) → agg = true ∨ l.all AV.one = true := by
      intro l hm
      rcases h1 with h1 | h1
      · exact .inl h1
      · refine .inr (List.all_eq_true.2 fun x hx => List.all_eq_true.1 h1 x (hm x hx))
    simp only [chunks, List.mem_cons] at hx
    rcases hx with rfl | hx
    · rw [mkAV_cells hk (hall _ fun x hx => List.mem_of_mem_take hx) ht, ht]
    · exact chunks_k hk n (cs.drop k) (hall _ fun x hx => List.mem_of_mem_drop hx) (by simp; omega) x hx

def repA (zs : List AV) : Nat → List AV
  | 0 => []
  | n + 1 => zs ++ repA zs n
def repV (zs : List Value) : Nat → List Value
  | 0 => []
  | n + 1 => zs ++ repV zs n
theorem rep_rel {G : Gh} {zs : List AV} {ws : List Value} (h : RvL G zs ws) : ∀ n, RvL G (repA zs n) (repV ws n)
  | 0 => .nil
  | n + 1 => h.append (rep_rel h n)
theorem repV_length (ws : List Value) : ∀ n, (repV ws n).length = n * ws.length
  | 0 => by simp [repV]
  | n + 1 => by simp [repV, repV_length ws n, Nat.succ_mul, Nat.add_comm]
theorem repV_get (ws : List Value) (hw : 0 < ws.length) : ∀ (n j : Nat), j < n * ws.length → (repV ws n)[j]? = ws[j % ws.length]?
  | 0, j, h => by simp at h
  | n + 1, j, h => by
    rw [Nat.succ_mul] at h
    simp only [repV]
    by_cases hj : j < ws.length
    · rw [List.getElem?_append_left hj, Nat.mod_eq_of_lt hj]
    · rw [List.getElem?_append_right (by omega), repV_get ws hw n _ (by omega), ← Nat.mod_eq_sub_mod (by omega)]

section
variable {P : Program} {Q : APost} {s : ASt} {N : ASt → Prop} {o : Oper}

theorem run_build_slice {t e : TypeId} {len size : Nat} {agg : Bool} {parts : Array (Nat × Operand)} {z : Value} {us : List Value} {a : Act} {W : World} (ho : o.op = .buildSlice t len parts) (ht : P.underlying t = some (.slice e)) (hte : tyI P e agg size = true) (hz1 : ∀ W, (zeroValue e).run P W = .ok z W) (hzlen : z.cells.size = size)
    (hlen : len * size ≤ 16777216) (hu1 : Instr.fill (fun i => some (i * size, size)) (repV z.cells.toList len).toArray (parts.toList.map fun p => (p.1, a.eval p.2)) = some us.toArray) :
    (execOp a.eval o).run P W = .ok (.value (.slice (some ⟨W.heap.size, 0, none⟩) len len)) (W.alloc (.cells us.toArray e)) := by
  have hparts : (parts.map fun (i, x) => (i, a.eval x)).toList = parts.toList.map fun p => (p.1, a.eval p.2) := by simp
  have hzero : ((if len * size = 0 then pure #[] else do pure (← zeroValue e).cells : Sem (Array Value)).run P W = .ok (if len * size = 0 then #[] else z.cells) W) := by
    split
    · simp
    · simp [hz1]
  have hrow : ((Array.range (len * size)).map fun x => (if len * size = 0 then #[] else z.cells)[x % (if len * size = 0 then #[] else z.cells).size]!) = (repV z.cells.toList len).toArray := by
    by_cases h0 : len * size = 0
    · rw [h0]
      apply Array.ext'
      have := repV_length z.cells.toList len
      simp only [Array.length_toList, hzlen, h0] at this
      simp [List.length_eq_zero_iff.1 this]
    · have hz0 : 0 < z.cells.size := by
        rw [hzlen]
        exact Nat.pos_of_ne_zero fun h => h0 (by rw [h, Nat.mul_zero])
      simp only [if_neg h0]
      apply Array.ext
      · simp [repV_length, hzlen]
      · intro j h1 h2
        have hj : j < len * z.cells.toList.length := by simpa [hzlen] using h1
        have e1 := repV_get z.cells.toList (by simpa using hz0) len j hj
        have hm : j % z.cells.size < z.cells.size := Nat.mod_lt _ hz0
        have hj2 : j < (repV z.cells.toList len).length := by simpa using h2
        rw [List.getElem?_eq_getElem hj2] at e1
        simp only [Array.length_toList] at e1
        rw [List.getElem?_eq_getElem (by simpa using hm)] at e1
        simp only [Option.some.injEq] at e1
        simp [e1, hm]
  unfold execOp
  simp only [ho]
  have hbig : ¬ (len * size > 2 ^ 24) := by omega
  by_cases h0 : len * size = 0
  · simp only [if_pos h0] at hrow
    simp only [Instr.buildSlice, Sem.run_bind, underlying, run_program, Result.andThen_ok, ht, Sem.run_pure, tyI_size hte, if_neg hbig, if_pos h0, hrow, hparts, hu1]
    simp [newRow]
  · simp only [if_neg h0] at hrow
    simp only [Instr.buildSlice, Sem.run_bind, underlying, run_program, Result.andThen_ok, ht, Sem.run_pure, tyI_size hte, if_neg hbig, if_neg h0, hz1, hrow, hparts, hu1]
    simp [newRow]
theorem op_build_slice {t e : TypeId} {len size : Nat} {agg : Bool} {parts : Array (Nat × Operand)} {zs ds : List AV} {vs : List (Nat × AV)} (ho : o.op = .buildSlice t len parts) (hd : dstOK o.dst s.n = true) (ht : P.underlying t = some (.slice e)) (hte : tyI P e agg size = true) (hs : agg = true ∨ size = 1) (hz : zeroC P e = some zs) (hzl : zs.length = size)
    (hlen : len * size ≤ 16777216) (hv : evp s parts.toList = some vs) (hf : fillA (fun i => some (i * size, size)) (repA zs len) vs = some ds) (hdl : ds.length = len * size) (h1 : agg = true ∨ ds.all AV.one = true) (h : N (s.put o.dst (.lst (chunks agg size len ds) none))) : AOp P o N Q s := by
  refine op_gen (s' := s) rfl rfl rfl hd (fun G W a ra r => ?_) h
  obtain ⟨z, hz1, hz2, _⟩ := zeroC_run hz
  have hzlen : z.cells.size = size := by have := (hz2 G).length; simp only [Array.length_toList] at this; omega
  have hrel := evp_eval ra hv
  obtain ⟨us, hu1, hu2⟩ := fill_rel hrel (rep_rel (hz2 G) len) hf
  have hcells : ∀ j v, us[j]? = some v → (W.alloc (.cells us.toArray e)).cell? ⟨W.heap.size, j, none⟩ = some v := by
    intro j v hv
    rw [World.cell?_alloc_new]
    simpa using hv
  have hcl := chunks_length agg size len ds
  have hfl := chunks_flat hs len ds h1 hdl
  obtain ⟨G', r', hle, hv'⟩ := r.new_lst (Grow.alloc W (.cells us.toArray e)) (xs := chunks agg size len ds) (vs := us) (k := size) (cap := len) (by rw [hfl]; exact hu2) (chunks_k hs len ds h1 hdl) hcells (by rw [hcl]; exact Nat.le_refl _)
  refine ⟨_, G', _, ?_, hv', r', hle⟩
  rw [hcl]
  exact run_build_slice ho ht hte hz1 hzlen hlen hu1

/-- The same, as a row of one's own. -/
theorem op_build_slice_tok {t e : TypeId} {len size : Nat} {agg : Bool} {parts : Array (Nat × Operand)} {zs ds : List AV} {vs : List (Nat × AV)} (ho : o.op = .buildSlice t len parts) (hd : dstOK o.dst s.n = true) (ht : P.underlying t = some (.slice e)) (hte : tyI P e agg size = true) (hs : agg = true ∨ size = 1) (hz : zeroC P e = some zs) (hzl : zs.length = size)
    (hlen : len * size ≤ 16777216) (hv : evp s parts.toList = some vs) (hf : fillA (fun i => some (i * size, size)) (repA zs len) vs = some ds) (hdl : ds.length = len * size) (h1 : agg = true ∨ ds.all AV.one = true) (h : N (ASt.put { s with H := s.H ++ [.tok e size len] } o.dst (.lst (chunks agg size len ds) (some s.H.length)))) : AOp P o N Q s := by
  refine op_gen (s' := { s with H := s.H ++ [.tok e size len] }) rfl rfl rfl hd (fun G W a ra r => ?_) h
  obtain ⟨z, hz1, hz2, _⟩ := zeroC_run hz
  have hzlen : z.cells.size = size := by have := (hz2 G).length; simp only [Array.length_toList] at this; omega
  have hrel := evp_eval ra hv
  obtain ⟨us, hu1, hu2⟩ := fill_rel hrel (rep_rel (hz2 G) len) hf
  have hcells : ∀ j v, us[j]? = some v → (W.alloc (.cells us.toArray e)).cell? ⟨W.heap.size, j, none⟩ = some v := by
    intro j v hv
    rw [World.cell?_alloc_new]
    simpa using hv
  have hul : us.length = len * size := by rw [← hu2.length, hdl]
  have hcl := chunks_length agg size len ds
  have hfl := chunks_flat hs len ds h1 hdl
  have hgn : ∀ m p, G.gen s.H.length m = some p → m < len := fun m p hp => absurd (r.domg _ m p hp) (Nat.lt_irrefl _)
  have r' := r.new_row (t := e) (g := s.H.length) (k := size) (n := len) (cap := len) (H' := s.H ++ [.tok e size len]) (Grow.alloc W (.cells us.toArray e))
    (fun q hq => by
      by_cases hl : q < s.H.length
      · exact List.getElem?_append_left hl
      · rw [List.getElem?_eq_none (by simp; omega), List.getElem?_eq_none (by omega)])
    (by simp) (by simp) hul (Nat.le_refl _) hgn (r.not_fixed (by simp)) (c := us.toArray) (by show (W.heap.push _)[W.heap.size]? = _; simp) (by simpa using hul) (fun j v hv => by simpa using hv)
  have hg0 : G.gen s.H.length len = none := by
    cases h : G.gen s.H.length len with
    | none => rfl
    | some p => exact absurd (hgn _ p h) (Nat.lt_irrefl _)
  have hle := Gh.row_le (r := r) (vs := us) (cap := len) hg0 (r.not_fixed (by simp))
  refine ⟨_, _, _, run_build_slice ho ht hte hz1 hzlen hlen hu1, ?_, r', hle⟩
  refine Rv.lst' (k := size) hcl (by rw [hfl]; exact hu2.mono hle) (chunks_k hs len ds h1 hdl) (fun j v hv => ?_) ⟨rfl, by simp [Gh.row, hcl]⟩ (Nat.le_refl _)
  simp only [Gh.row, Nat.zero_add, if_true]
  exact hv
end
end Go.Abs
