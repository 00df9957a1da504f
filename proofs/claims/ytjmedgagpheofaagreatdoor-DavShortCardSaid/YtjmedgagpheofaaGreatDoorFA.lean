/- The abstract layer: bytes and strings; literals of structs and slices; parts of slices. -/
import Derived.Test.YtjmedgagpheofaaGreatDoorF7
import Derived.Laws.BytesArg
set_option linter.unusedSectionVars false
set_option linter.unusedVariables false
set_option linter.unusedSimpArgs false
set_option linter.constructorNameAsVariable false
namespace Go.Abs
open Go.RowKit
variable [Tabs]

def bytesA (l : Str) : List AV := l.map fun c => .int .u8 c.toNat

theorem bytes_flat : ∀ l : Str, (bytesA l).flatMap AV.cells = bytesA l
  | [] => rfl
  | c :: l => by
    have := bytes_flat l
    simp only [bytesA, List.map_cons, List.flatMap_cons] at this ⊢
    rw [this]; rfl

theorem flat_drop {size : Nat} : ∀ (n : Nat) (l : List AV), (∀ x ∈ l, x.cells.length = size) → (l.drop n).flatMap AV.cells = (l.flatMap AV.cells).drop (n * size)
  | 0, l, _ => by simp
  | n + 1, [], _ => by simp
  | n + 1, x :: l, hl => by
    have hx := hl x (by simp)
    have hn : x.cells.length ≤ (n + 1) * size := by rw [hx, Nat.succ_mul]; omega
    simp only [List.drop_succ_cons, List.flatMap_cons]
    rw [flat_drop n l (fun y hy => hl y (by simp [hy])), List.drop_append, List.drop_of_length_le hn, List.nil_append, hx, Nat.succ_mul, Nat.add_sub_cancel]
theorem flat_take {size : Nat} : ∀ (n : Nat) (l : List AV), (∀ x ∈ l, x.cells.length = size) → (l.take n).flatMap AV.cells = (l.flatMap AV.cells).take (n * size)
  | 0, l, _ => by simp
  | n + 1, [], _ => by simp
  | n + 1, x :: l, hl => by
    have hx := hl x (by simp)
    have hn : x.cells.length ≤ (n + 1) * size := by rw [hx, Nat.succ_mul]; omega
    simp only [List.take_succ_cons, List.flatMap_cons]
    rw [flat_take n l (fun y hy => hl y (by simp [hy])), List.take_append, List.take_of_length_le hn, hx, Nat.succ_mul, Nat.add_sub_cancel]

/-- A list whose spine is written out. -/
def force {α : Type} : List α → Option (List α)
  | [] => some []
  | c :: cs => match force cs with
    | some ds => some (c :: ds)
    | none => none
theorem force_eq {α : Type} : ∀ {xs ys : List α}, force xs = some ys → xs = ys
  | [], ys, h => by simpa [force] using h
  | c :: cs, ys, h => by
    simp only [force] at h
    split at h
    · rename_i ds hds
      simp only [Option.some.injEq] at h; subst h
      rw [force_eq hds]
    · simp at h

/-- A slice's cells in a new block that nobody writes. -/
theorem R.new_lst {G : Gh} {H : List AObj} {W W' : World} (r : R G H W) (hg : Grow W W') {xs : List AV} {vs : List Value} {k cap : Nat} (hl : RvL G (xs.flatMap AV.cells) vs) (hk : ∀ x ∈ xs, x.cells.length = k) (hc : ∀ j v, vs[j]? = some v → W'.cell? ⟨W.heap.size, j, none⟩ = some v) (hcap : xs.length ≤ cap) :
    ∃ G', R G' H W' ∧ G.le G' ∧ Rv G' (.lst xs none) (.slice (some ⟨W.heap.size, 0, none⟩) xs.length cap) := by
  have hle : G.le (G.withImm W.heap.size vs) := Gh.withImm_le (r.imm_none (Nat.le_refl _)) (r.not_kept (Nat.le_refl _))
  refine ⟨_, r.new_imm hg hc, hle, .lst (hl.mono hle) hk (fun j v hv => ?_) trivial hcap⟩
  simp only [Gh.withImm, Nat.zero_add, if_true]
  exact hv

/-- Filling a literal, on lists. -/
def fillA (place : Nat → Option (Nat × Nat)) : List AV → List (Nat × AV) → Option (List AV)
  | cs, [] => force cs
  | cs, (i, v) :: rest =>
    match place i with
    | none => none
    | some (off, size) => if v.cells.length ≠ size ∨ off + v.cells.length > cs.length then none else fillA place (setCells cs off v.cells) rest

theorem foldl_set (off : Nat) : ∀ (vs : List Value) (i : Nat) (ws : List Value), (vs.zipIdx i).foldl (fun (cs : Array Value) (x : Value × Nat) => cs.setIfInBounds (off + x.2) x.1) ws.toArray = (setCells ws (off + i) vs).toArray
  | [], _, _ => rfl
  | v :: vs, i, ws => by
    simp only [List.zipIdx_cons, List.foldl_cons, setCells]
    rw [show (ws.toArray.setIfInBounds (off + i) v) = (ws.set (off + i) v).toArray by simp, foldl_set off vs (i + 1)]
    rfl

inductive RvP (G : Gh) : List (Nat × AV) → List (Nat × Value) → Prop
  | nil : RvP G [] []
  | cons {i : Nat} {a : AV} {v : Value} {as : List (Nat × AV)} {vs : List (Nat × Value)} : Rv G a v → RvP G as vs → RvP G ((i, a) :: as) ((i, v) :: vs)

theorem fill_rel {G : Gh} {place : Nat → Option (Nat × Nat)} : ∀ {as : List (Nat × AV)} {ps : List (Nat × Value)} {cs ds : List AV} {ws : List Value}, RvP G as ps → RvL G cs ws → fillA place cs as = some ds → ∃ us, Instr.fill place ws.toArray ps = some us.toArray ∧ RvL G ds us
  | _, _, cs, ds, ws, .nil, hl, h => ⟨ws, rfl, (force_eq h) ▸ hl⟩
  | _, _, cs, ds, ws, .cons (i := i) (a := a) (v := v) ha hp, hl, h => by
    simp only [fillA] at h
    split at h
    · simp at h
    · rename_i off size hpl
      split at h
      · simp at h
      · rename_i hc
        have hcl := ha.cellsL
        have h1 := hcl.length
        have h2 := hl.length
        simp only [Array.length_toList] at h1
        obtain ⟨us, hu, hr⟩ := fill_rel hp (RvL.setCells off hcl hl) h
        refine ⟨us, ?_, hr⟩
        simp only [Instr.fill, hpl]
        have hne : ¬ ((v.cells.size ≠ size || off + v.cells.size > ws.toArray.size) = true) := by
          simp only [Bool.or_eq_true, decide_eq_true_eq]
          simp only [List.size_toArray]
          omega
        rw [if_neg hne]
        have e := foldl_set off v.cells.toList 0 ws
        rw [← Array.foldl_toList]
        simp only [Array.toList_zipIdx, Nat.add_zero] at e ⊢
        rw [e]
        exact hu

def evp (s : ASt) : List (Nat × Operand) → Option (List (Nat × AV))
  | [] => some []
  | (i, x) :: xs => match s.ev x, evp s xs with
    | some v, some vs => some ((i, v) :: vs)
    | _, _ => none
theorem evp_eval {G : Gh} {s : ASt} {a : Act} (ra : RA G s a) : ∀ {xs : List (Nat × Operand)} {vs : List (Nat × AV)}, evp s xs = some vs → RvP G vs (xs.map fun p => (p.1, a.eval p.2))
  | [], vs, h => by simp only [evp, Option.some.injEq] at h; subst h; exact .nil
  | (i, x) :: xs, vs, h => by
    simp only [evp] at h
    split at h
    · rename_i v us h1 h2
      simp only [Option.some.injEq] at h; subst h
      exact .cons (ev_eval ra h1) (evp_eval ra h2)
    · simp at h

/-- Where a struct's fields lie, and how many cells they have. -/
def placesOf (P : Program) (t : TypeId) : Option (List (Nat × Nat)) :=
  match P.underlying t with
  | some (.struct fs) => fs.toList.mapM fun f => (P.info? f.type).map fun i => (f.offset, i.size)
  | _ => none

theorem run_places {P : Program} : ∀ (fs : List Field) (ps : List (Nat × Nat)), (fs.mapM fun f => (P.info? f.type).map fun i => (f.offset, i.size)) = some ps → ∀ W, (fs.mapM fun f => do pure (f.offset, ← sizeOf f.type) : Sem (List (Nat × Nat))).run P W = .ok ps W
  | [], ps, h, W => by simp at h; subst h; simp
  | f :: fs, ps, h, W => by
    simp only [List.mapM_cons, Option.bind_eq_bind, Option.bind_eq_some_iff, Option.pure_def, Option.map_eq_some_iff, Option.some.injEq] at h
    obtain ⟨p, ⟨i, hi, rfl⟩, qs, hqs, rfl⟩ := h
    have ih := run_places fs qs hqs W
    have hs : (sizeOf f.type).run P W = .ok i.size W := by simp [sizeOf, typeInfo, hi]
    rw [List.mapM_cons]
    simp only [Sem.run_bind, hs, Result.andThen_ok, Sem.run_pure, ih]

section
variable {P : Program} {Q : APost} {s : ASt} {N : ASt → Prop} {o : Oper}

theorem op_build {t : TypeId} {parts : Array (Nat × Operand)} {zs ds : List AV} {ps : List (Nat × Nat)} {vs : List (Nat × AV)} (ho : o.op = .build t parts) (hd : dstOK o.dst s.n = true) (hz : zeroC P t = some zs) (hp : placesOf P t = some ps) (hv : evp s parts.toList = some vs) (hf : fillA (fun i => ps[i]?) zs vs = some ds) (h : N (s.put o.dst (.agg ds))) : AOp P o N Q s :=
  op_val hd (fun G W a ra _ => by
    obtain ⟨z, hz1, hz2, _⟩ := zeroC_run hz
    unfold placesOf at hp
    split at hp
    · rename_i fs hu
      have hrel := evp_eval ra hv
      obtain ⟨us, h1, h2⟩ := fill_rel hrel (hz2 G) hf
      refine ⟨.agg us.toArray, ?_, .agg h2⟩
      have hrun := run_places (P := P) fs.toList ps hp W
      unfold execOp
      simp only [ho]
      have hm : (fs.mapM fun f => do pure (f.offset, ← sizeOf f.type) : Sem (Array (Nat × Nat))).run P W = .ok ps.toArray W := by
        rw [Array.mapM_eq_mapM_toList, Sem.run_map, hrun]
        rfl
      have hpl : (fun (i : Nat) => ps.toArray[i]?) = fun (i : Nat) => ps[i]? := by funext i; simp
      have hparts : (parts.map fun (i, x) => (i, a.eval x)).toList = parts.toList.map fun p => (p.1, a.eval p.2) := by simp
      have h1' : Instr.fill (fun i => ps[i]?) z.cells (parts.toList.map fun p => (p.1, a.eval p.2)) = some us.toArray := by simpa using h1
      simp only [Instr.build, Sem.run_bind, hz1, Result.andThen_ok, underlying, run_program, hu, Sem.run_pure, hm, hparts, hpl, h1']
    · simp at hp) h

theorem op_bytes {t u e : TypeId} {x : Operand} {l : Str} (ho : o.op = .convert t u x) (hd : dstOK o.dst s.n = true) (ht : P.underlying t = some .string) (hu : P.underlying u = some (.slice e)) (he : P.underlying e = some (.int .u8)) (hx : s.ev x = some (.str l)) (h : N (s.put o.dst (.lst (bytesA l) none))) : AOp P o N Q s := by
  refine op_gen (s' := s) rfl rfl rfl hd (fun G W a ra r => ?_) h
  have hrun := run_bytes_of_string (P := P) W t u e (mkS l) ht hu he
  have hg : Grow W (W.drew.alloc (.cells (bytesRow (mkS l) (grownCap W (mkS l).size 0 e)) e ((bytesRow (mkS l) (grownCap W (mkS l).size 0 e)).size, (bytesRow (mkS l) (grownCap W (mkS l).size 0 e)).size + 1))) := (Grow.drew W).trans (Grow.alloc _ _)
  have hcap := grownCap_ge W (mkS l).size 0 e
  have hbl : (bytesA l).length = l.length := by simp [bytesA]
  obtain ⟨G', r', hle, hv⟩ := r.new_lst hg (xs := bytesA l) (vs := l.map fun c => Value.int .u8 c.toNat) (k := 1) (cap := grownCap W (mkS l).size 0 e) (show RvL G ((bytesA l).flatMap AV.cells) (l.map fun c => Value.int .u8 c.toNat) from rel_bytes G l) (by
      intro y hy
      obtain ⟨c, _, rfl⟩ := List.mem_map.1 hy
      rfl) (by
      intro j v hv
      have hj : j < l.length := by
        rcases Nat.lt_or_ge j l.length with h | h
        · exact h
        · simp [List.getElem?_eq_none h] at hv
      have e1 : (World.alloc W.drew (.cells (bytesRow (mkS l) (grownCap W (mkS l).size 0 e)) e ((bytesRow (mkS l) (grownCap W (mkS l).size 0 e)).size, (bytesRow (mkS l) (grownCap W (mkS l).size 0 e)).size + 1))).heap[W.heap.size]? = some (.cells (bytesRow (mkS l) (grownCap W (mkS l).size 0 e)) e ((bytesRow (mkS l) (grownCap W (mkS l).size 0 e)).size, (bytesRow (mkS l) (grownCap W (mkS l).size 0 e)).size + 1)) := by
        show (W.heap.push _)[W.heap.size]? = _
        simp
      unfold World.cell?
      simp only [e1]
      simp only [Option.isSome_none, Bool.false_eq_true, if_false]
      unfold bytesRow
      rw [Array.getElem?_append_left (by simpa [mkS] using hj)]
      simpa [mkS] using hv) (by rw [hbl]; exact hcap)
  refine ⟨_, G', _, ?_, hv, r', hle⟩
  unfold execOp
  simp only [ho, (ev_eval ra hx).str_inv]
  rw [hbl]
  simp only [Sem.run_bind, hrun, Result.andThen_ok, Sem.run_pure, mkS_size]

theorem op_string {t u e : TypeId} {x : Operand} {l : Str} {tok : Option Nat} {xs : List AV} (ho : o.op = .convert t u x) (hd : dstOK o.dst s.n = true) (ht : P.underlying t = some (.slice e)) (he : P.underlying e = some (.int .u8)) (hu : P.underlying u = some .string) (hx : s.ev x = some (.lst xs tok)) (hl : xs = bytesA l) (h : N (s.put o.dst (.str l))) : AOp P o N Q s :=
  op_val hd (fun G W a ra r => by
    subst hl
    have hrel := ev_eval ra hx
    have hbl : (bytesA l).length = l.length := by simp [bytesA]
    refine ⟨.string (mkS l), ?_, .str l⟩
    generalize hev : a.eval x = z at hrel
    generalize hxs : bytesA l = xs at hrel
    cases hrel with
    | lnil =>
      have : l = [] := by
        have := congrArg List.length hxs
        simp [bytesA] at this; exact this
      subst this
      unfold execOp
      simp only [ho, hev]
      simp [convert, underlying, ht, hu, he, Conv.bytesToString, mkS]
      rfl
    | @lst k _ _ vs b o' cap hl' hk hc _ _ =>
      subst hxs
      have hnum := run_convert_bytes_arg (P := P) W t e ht he b o' (bytesA l).length cap (l.map fun c => (c.toNat : Int)) (by simp [bytesA]) (fun i hi => by
        rw [hbl] at hi
        have h1 : ((bytesA l).flatMap AV.cells)[i]? = some (.int .u8 ((l.map fun c => (c.toNat : Int)).getD i 0)) := by
          rw [bytes_flat]
          simp [bytesA, List.getElem?_eq_getElem hi]
        obtain ⟨v, hv, hr⟩ := hl'.get i _ h1
        rw [hr.int_inv] at hv
        exact r.imm _ _ _ (hc i _ hv)) u hu
      have hs : strOfNums (l.map fun c => (c.toNat : Int)) = mkS l := by
        unfold strOfNums mkS
        congr 2
        rw [List.map_map]
        conv => rhs; rw [← List.map_id l]
        apply List.map_congr_left
        intro c _
        simp
      rw [hs] at hnum
      unfold execOp
      simp only [ho, hev]
      simp only [Sem.run_bind, hnum, Result.andThen_ok, Sem.run_pure]) h

/-- A part of a slice. -/
theorem op_slice_l {t e : TypeId} {x : Operand} {lo hi : Option Operand} {xs : List AV} {tok : Option Nat} {a b size : Nat} {agg : Bool} (ho : o.op = .slice t x lo hi none) (hd : dstOK o.dst s.n = true) (ht : P.underlying t = some (.slice e)) (hte : tyI P e agg size = true) (hx : s.ev x = some (.lst xs tok))
    (hlo : (lo = none ∧ a = 0) ∨ ∃ y k, lo = some y ∧ s.ev y = some (.int k a)) (hhi : (hi = none ∧ b = xs.length) ∨ ∃ y k, hi = some y ∧ s.ev y = some (.int k b)) (hab : a ≤ b) (hb : b ≤ xs.length) (hk : ∀ x ∈ xs, x.cells.length = size) (h : N (s.put o.dst (.lst ((xs.drop a).take (b - a)) none))) : AOp P o N Q s :=
  op_val hd (fun G W c ra r => by
    have hrel := ev_eval ra hx
    have hlen : ((xs.drop a).take (b - a)).length = b - a := by simp; omega
    have hmem : ∀ y ∈ (xs.drop a).take (b - a), y.cells.length = size := fun y hy => hk y (List.mem_of_mem_drop (List.mem_of_mem_take hy))
    have run1 : ∀ (len cap : Nat), len = xs.length → len ≤ cap → (Instr.sliceBounds true len cap (lo.map c.eval) (hi.map c.eval) none).run P W = .ok (a, b, cap) W := by
      intro len cap hl hc
      rcases hlo with ⟨rfl, rfl⟩ | ⟨y, k, rfl, hy⟩ <;> rcases hhi with ⟨rfl, rfl⟩ | ⟨y', k', rfl, hy'⟩
      · simp [Instr.sliceBounds, hl]
      · simp [Instr.sliceBounds, (ev_eval ra hy').int_inv, run_sliceBound (P := P) (show b ≤ cap by omega)]
      · simp [Instr.sliceBounds, (ev_eval ra hy).int_inv, hl, run_sliceBound (P := P) (show a ≤ xs.length by omega)]
      · simp [Instr.sliceBounds, (ev_eval ra hy).int_inv, (ev_eval ra hy').int_inv, run_sliceBound (P := P) (show b ≤ cap by omega), run_sliceBound (P := P) hab]
    generalize hev : c.eval x = z at hrel
    cases hrel with
    | lnil =>
      have ha : a = 0 := by simp at hb; omega
      have hb0 : b = 0 := by simpa using hb
      subst ha hb0
      refine ⟨.slice none 0 0, ?_, by simpa using Rv.lnil⟩
      unfold execOp
      simp only [ho, hev]
      have := run1 0 0 rfl (Nat.le_refl _)
      simp [Instr.sliceAt, Instr.slice, underlying, ht, this, tyI_size hte]
    | @lst k _ _ vs b' o' cap hl hk' hc _ hcap =>
      have h1 := run1 xs.length cap rfl hcap
      have hfl := hl.length
      rw [flat_length hk] at hfl
      have hcells : RvL G (((xs.drop a).take (b - a)).flatMap AV.cells) ((vs.drop (a * size)).take ((b - a) * size)) := by
        have e : ((xs.drop a).take (b - a)).flatMap AV.cells = ((xs.flatMap AV.cells).drop (a * size)).take ((b - a) * size) := by
          rw [flat_take (b - a) (xs.drop a) (fun y hy => hk y (List.mem_of_mem_drop hy)), flat_drop a xs hk]
        rw [e]; exact (hl.drop _).take _
      have himm : ∀ j v, ((vs.drop (a * size)).take ((b - a) * size))[j]? = some v → G.imm b' (o' + a * size + j) = some v := by
        intro j v hv
        have hj : j < (b - a) * size := by
          rcases Nat.lt_or_ge j ((b - a) * size) with h | h
          · exact h
          · rw [List.getElem?_eq_none (by simp; omega)] at hv; cases hv
        rw [List.getElem?_take_of_lt hj, List.getElem?_drop] at hv
        rw [Nat.add_assoc]; exact hc _ _ hv
      by_cases hca : cap = a
      · have : b - a = 0 := by omega
        refine ⟨.slice (some ⟨b', o', none⟩) (b - a) (cap - a), ?_, ?_⟩
        · unfold execOp
          simp only [ho, hev]
          subst hca
          simp [Instr.sliceAt, Instr.slice, underlying, ht, h1, tyI_size hte]
        · have e : (xs.drop a).take (b - a) = [] := by rw [this]; simp
          rw [e, this]
          exact .lst (k := size) (vs := []) .nil (by simp) (by simp) trivial (Nat.zero_le _)
      · refine ⟨.slice (some ⟨b', o' + a * size, none⟩) (b - a) (cap - a), ?_, Rv.lst' (k := size) hlen hcells hmem himm trivial (by omega)⟩
        unfold execOp
        simp only [ho, hev]
        simp [Instr.sliceAt, Instr.slice, underlying, ht, h1, tyI_size hte, hca, add_eq]) h
end

end Go.Abs
