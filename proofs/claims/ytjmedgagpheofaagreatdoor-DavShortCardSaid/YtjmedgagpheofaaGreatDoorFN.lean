/- The abstract layer: ranges over maps; calls of functions without a body; pointers turned and compared; what a strings.Builder needs. -/
import Derived.Test.YtjmedgagpheofaaGreatDoorFM
import Derived.Maps.RangeRun
import Derived.Lib.Builder
import Derived.Lib.UnsafeStr
set_option linter.unusedSectionVars false
set_option linter.unusedVariables false
set_option linter.unusedSimpArgs false
set_option linter.constructorNameAsVariable false
namespace Go.Abs
open Go.RowKit
variable [Tabs]

/-! ### Ranges over maps -/
def leftA (es : List (Nat × AV × AV)) (seen : List Nat) : List (Nat × AV × AV) := es.filter fun e => !seen.contains e.1
theorem RO_new_iter {G : Gh} {W : World} {k c : Nat} {m bm : Option Nat} (h : iterOK (G.withBlock k W.heap.size) m bm) : RO (G.withBlock k W.heap.size) (W.alloc (.mapIter bm c #[] c)) k (.iter m c [] c) :=
  ⟨W.heap.size, bm, place_withBlock, fun _ => own_withBlock, h, by show (W.heap.push _)[W.heap.size]? = _; simp⟩
theorem entriesOK.left {G : Gh} {seen : List Nat} : ∀ {es : List (Nat × AV × AV)} {ms : List MapEntry}, entriesOK G es ms → entriesOK G (leftA es seen) (ms.filter fun e => !seen.toArray.contains e.born)
  | [], [], _ => trivial
  | (b, k, v) :: es, m :: ms, ⟨h0, h1, h2, h3⟩ => by
    subst h0
    have ih := entriesOK.left (seen := seen) h3
    simp only [leftA, List.filter_cons, List.contains_toArray] at ih ⊢
    split
    · exact ⟨rfl, h1, h2, ih⟩
    · exact ih
  | [], _ :: _, h => h.elim
  | _ :: _, [], h => h.elim
theorem entriesOK.back {G : Gh} : ∀ {es : List (Nat × AV × AV)} {ms : List MapEntry}, entriesOK G es ms → ∀ m ∈ ms, ∃ e ∈ es, e.1 = m.born ∧ Rv G e.2.1 m.key ∧ Rv G e.2.2 m.val
  | [], [], _, m, h => by cases h
  | e :: es, m' :: ms, ⟨h0, h1, h2, h3⟩, m, h => by
    rcases List.mem_cons.1 h with rfl | h
    · exact ⟨e, by simp, h0, h1, h2⟩
    · obtain ⟨e', he, r⟩ := entriesOK.back h3 m h
      exact ⟨e', List.mem_cons_of_mem _ he, r⟩
  | [], _ :: _, h, _, _ => h.elim
  | _ :: _, [], h, _, _ => h.elim

section
variable {P : Program} {Q : APost} {s : ASt} {N : ASt → Prop} {o : Oper}

theorem op_range_map {t kt et : TypeId} {x : Operand} {m c : Nat} {es : List (Nat × AV × AV)} (ho : o.op = .range t x) (hd : dstOK o.dst s.n = true) (ht : P.underlying t = some (.map kt et)) (hx : s.ev x = some (.mapv m)) (hm : s.H[m]? = some (.map es c))
    (h : N (ASt.put { s with H := s.H ++ [.iter (some m) c [] c] } o.dst (.ptr s.H.length 0))) : AOp P o N Q s := by
  refine op_gen (s' := { s with H := s.H ++ [.iter (some m) c [] c] }) rfl rfl rfl hd (fun G W a ra r => ?_) h
  obtain ⟨b, hp, he⟩ := (ev_eval ra hx).mapv_inv
  obtain ⟨b', ms, hp', _, hb, hes⟩ := r.obj m _ hm
  rw [hp] at hp'
  simp only [Option.some.injEq, Prod.mk.injEq, and_true] at hp'
  subst hp'
  have hle := Gh.withBlock_le (b := W.heap.size) (r.place_none (Nat.le_refl _)) r.nf
  obtain ⟨r', hle⟩ := r.new_last (ob := .mapIter (some b) c #[] c) (RO_new_iter (c := c) (m := some m) (bm := some b) (hle.place _ _ hp))
  refine ⟨.pointer (some ⟨W.heap.size, 0, none⟩), _, _, ?_, .ptr (i := 0) (o := 0) place_withBlock, r', hle⟩
  unfold execOp
  simp only [ho, he]
  rw [Sem.run_bind, run_range_map (P := P) W t kt et b ms c ht hb]; rfl
theorem op_range_nil {t kt et : TypeId} {x : Operand} (ho : o.op = .range t x) (hd : dstOK o.dst s.n = true) (ht : P.underlying t = some (.map kt et)) (hx : s.ev x = some .nilm)
    (h : N (ASt.put { s with H := s.H ++ [.iter none 0 [] 0] } o.dst (.ptr s.H.length 0))) : AOp P o N Q s := by
  refine op_gen (s' := { s with H := s.H ++ [.iter none 0 [] 0] }) rfl rfl rfl hd (fun G W a ra r => ?_) h
  have he : a.eval x = .map none := by
    have := ev_eval ra hx
    generalize a.eval x = v at this ⊢
    cases this; rfl
  obtain ⟨r', hle⟩ := r.new_last (ob := .mapIter none 0 #[] 0) (RO_new_iter (c := 0) (m := none) (bm := none) trivial)
  refine ⟨.pointer (some ⟨W.heap.size, 0, none⟩), _, _, ?_, .ptr (i := 0) (o := 0) place_withBlock, r', hle⟩
  unfold execOp
  simp only [ho, he]
  rw [Sem.run_bind, run_range_nilMap (P := P) W t kt et ht]; rfl

theorem iter_at {G : Gh} {H : List AObj} {W : World} (r : R G H W) {k since last b o : Nat} {m : Option Nat} {seen : List Nat} (hk : H[k]? = some (.iter m since seen last)) (hp : G.place k = some (b, o)) : o = 0 ∧ (∀ j, G.own b j = some (k, j)) ∧ ∃ bm, iterOK G m bm ∧ W.heap[b]? = some (.mapIter bm since seen.toArray last) := by
  obtain ⟨b', bm, hp', ho, hi, hb⟩ := r.obj k _ hk
  rw [hp] at hp'; simp only [Option.some.injEq, Prod.mk.injEq] at hp'
  obtain ⟨rfl, rfl⟩ := hp'
  exact ⟨rfl, ho, bm, hi, hb⟩
theorem op_next_nil {x : Operand} {k since last : Nat} {seen : List Nat} (ho : o.op = .next x false) (hd : dstOK o.dst s.n = true) (hx : s.ev x = some (.ptr k 0)) (hk : s.H[k]? = some (.iter none since seen last)) (h : N (s.put o.dst (.tuple [.bool false]))) : AOp P o N Q s :=
  op_val hd (fun G W a ra r => ⟨.tuple #[.bool false], by
    obtain ⟨b, off, hp, he⟩ := (ev_eval ra hx).ptr_inv
    obtain ⟨rfl, _, bm, hi, hb⟩ := iter_at r hk hp
    have hbm : bm = none := by cases bm with
      | none => rfl
      | some => exact hi.elim
    subst hbm
    unfold execOp
    simp only [ho, he]
    simp only [Instr.next, getObj, Sem.run_bind, Sem.run, Nat.zero_add, hb, Result.andThen]
    rfl, .tuple (vs := [.bool false]) (.cons (.bool _) .nil)⟩) h
theorem op_next {x : Operand} {k m since last c : Nat} {seen : List Nat} {es : List (Nat × AV × AV)} (ho : o.op = .next x false) (hd : dstOK o.dst s.n = true) (hx : s.ev x = some (.ptr k 0)) (hk : s.H[k]? = some (.iter (some m) since seen last)) (hm : s.H[m]? = some (.map es c)) (hold : ∀ e ∈ es, e.1 < since) (hsc : since ≤ last)
    (hover : leftA es seen = [] → N (s.put o.dst (.tuple [.bool false])))
    (hnext : ∀ e ∈ leftA es seen, N (ASt.put { s with H := s.H.set k (.iter (some m) since (seen ++ [e.1]) c) } o.dst (.tuple [.bool true, e.2.1, e.2.2]))) : AOp P o N Q s := by
  intro G W a ra r
  obtain ⟨b, off, hp, he⟩ := (ev_eval ra hx).ptr_inv
  obtain ⟨rfl, hown, bm, hi, hb⟩ := iter_at r hk hp
  cases bm with
  | none => exact hi.elim
  | some bm =>
    obtain ⟨bm', ms, hpm, _, hbm, hes⟩ := r.obj m _ hm
    have e1 : bm' = bm := by
      rw [show G.place m = some (bm, 0) from hi] at hpm
      simpa using hpm.symm
    subst e1
    have hold' : ∀ x ∈ ms.toList, x.born < since := fun x hx => by
      obtain ⟨e, he, hb, _⟩ := hes.back x hx
      have := hold e he; omega
    have hl : entriesOK G (leftA es seen) (leftOf ms seen.toArray).toList := by
      have := hes.left (seen := seen)
      simpa [leftOf, Array.toList_filter] using this
    rcases run_next_at (P := P) W o.type b bm' since last seen.toArray ms c hb hbm hold' hsc with ⟨h0, hrun⟩ | ⟨e, hmem, w1, hw, hrun⟩
    · have hnil : leftA es seen = [] := by
        have := hl.length
        rw [List.eq_nil_iff_length_eq_zero, this]; simpa using h0
      unfold Oper.wp
      have hx : (execOp a.eval o).run P W = .ok (.value (.tuple #[.bool false])) W := by
        unfold execOp
        simp only [ho, he, Nat.zero_add]
        rw [Sem.run_bind, hrun]; rfl
      rw [hx, Oper.upon_value]
      exact ⟨_, G, hover hnil, ra.put hd (.tuple (vs := [.bool false]) (.cons (.bool _) .nil)), by cases o.dst <;> exact r, .refl G⟩
    · obtain ⟨ea, hea, hborn, hk1, hv1⟩ := hl.back e hmem
      have hx : (execOp a.eval o).run P W = .ok (.value (.tuple #[.bool true, e.key, e.val])) (ChangeMaps.setBlock w1 b (.mapIter (some bm') since (seen.toArray.push e.born) c)) := by
        unfold execOp
        simp only [ho, he, Nat.zero_add]
        rw [Sem.run_bind, hrun]; rfl
      have r1 : R G s.H w1 := by
        rcases hw with rfl | rfl
        · exact r
        · exact r.grow (Grow.drew _)
      have hb1 : w1.heap[b]? = some (.mapIter (some bm') since seen.toArray last) := by
        rcases hw with rfl | rfl <;> exact hb
      have r2 := r1.set_obj (o' := .iter (some m) since (seen ++ [ea.1]) c) (ob' := .mapIter (some bm') since (seen.toArray.push e.born) c) hk (by simp) hown hb1
        (fun W' hW' => ⟨b, some bm', hp, hown, hi, by rw [hW', hborn]; simp⟩)
      unfold Oper.wp
      rw [hx, Oper.upon_value]
      have ra' : RA G { s with H := s.H.set k (.iter (some m) since (seen ++ [ea.1]) c) } a := ⟨ra.size, ra.env, ra.defs⟩
      exact ⟨_, G, hnext ea hea, ra'.put hd (.tuple (vs := [.bool true, e.key, e.val]) (.cons (.bool _) (.cons hk1 (.cons hv1 .nil)))), by cases o.dst <;> exact r2, .refl G⟩

/-! ### Functions without a body -/
def ExtA (P : Program) (f : FuncId) (args : List AV) (H : List AObj) (Q : AEnd → List AObj → Prop) : Prop :=
  ∀ G W vs, RvL G args vs → R G H W → ∃ v x H' G' W', Q (.ret v) H' ∧ (callFunc f vs.toArray).run P W = .ok (.value x) W' ∧ Rv G' v x ∧ R G' H' W' ∧ G.le G'
def InvA (P : Program) (f : FuncId) (args : List AV) (H : List AObj) (Q : AEnd → List AObj → Prop) : Prop := (Ent P f ∧ CallsA P f args H Q) ∨ ExtA P f args H Q
theorem InvA.mono {f : FuncId} {args : List AV} {H : List AObj} {Q Q' : AEnd → List AObj → Prop} (h : InvA P f args H Q) (hq : ∀ e H, Q e H → Q' e H) : InvA P f args H Q' := by
  rcases h with ⟨h1, h2⟩ | h
  · exact .inl ⟨h1, h2.mono hq⟩
  · exact .inr fun G W vs hv r => let ⟨v, x, H', G', W', q, rest⟩ := h G W vs hv r; ⟨v, x, H', G', W', hq _ _ q, rest⟩

theorem op_call_inv {x : Operand} {xs : Array Operand} {ts : Array TypeId} {f : FuncId} {caps vs : List AV} (ho : o.op = .call { callee := .value x, args := xs, argTypes := ts }) (hd : dstOK o.dst s.n = true) (hf : s.ev x = some (.func (.func f) caps)) (hv : evs s xs.toList = some vs)
    (h : InvA P f (vs ++ caps) s.H fun e H' => match e with | .ret v => N (ASt.put { s with H := H' } o.dst v) | .panic v => Q (.panic v) { s with H := H' }) : AOp P o N Q s := by
  rcases h with ⟨he, h⟩ | h
  · exact op_call ho hd hf he hv h
  intro G W a ra r
  obtain ⟨ws, hw, hl⟩ := (ev_eval ra hf).func_inv
  have hargs := evs_eval ra hv
  obtain ⟨v, y, H', G', W', q, hrun, hy, r', hle⟩ := h G W _ (hargs.append hl) r
  have hx : (execOp a.eval o).run P W = .ok (.value y) W' := by
    unfold execOp
    simp only [ho, hw]
    simp only [Sem.run_bind]
    have e1 : (resolve a.eval { callee := .value x, args := xs, argTypes := ts } o.type).run P W = .ok { target := .fn (.func f) ws.toArray, args := xs.map a.eval } W := by
      simp [resolve, hw, Deferred.ofValue]
    rw [e1]
    simp only [Result.andThen_ok]
    have e2 : (invoke (.fn (.func f) ws.toArray) (xs.map a.eval)) = callFunc f (xs.map a.eval ++ ws.toArray) := rfl
    rw [e2, ← hrun]
    congr 2
    apply Array.ext'
    simp
  unfold Oper.wp
  rw [hx, Oper.upon_value]
  have ra' : RA G' { s with H := H' } a := ⟨ra.size, fun t v hv => (ra.env t v hv).mono hle, ra.defs.mono hle⟩
  exact ⟨_, G', q, ra'.put hd hy, by cases o.dst <;> exact r', hle⟩

/-- What stands ahead of a function without a body. -/
structure Bare (P : Program) (f : FuncId) (e : Array Value → Sem Value) : Prop where
  run : ∀ args W, (callFunc f args).run P W = ((e args).run P W).andThen fun x W' => .ok (.value x) W'
theorem bare_of {f : FuncId} {fn : Func} {e : Array Value → Sem Value} (hf : P.funcs[f]? = some fn) (hn : (fn.name == "runtime.NumGoroutine") = false) (hb : fn.body = none) (h1 : (Extern.findNext fn).isNone = true) (h2 : ∃ e', Extern.find fn = some e' ∧ e' = e) : Bare P f e := by
  obtain ⟨e', h2, rfl⟩ := h2
  refine ⟨fun args W => ?_⟩
  have h1 : Extern.findNext fn = none := by simpa using h1
  unfold callFunc
  simp only [Sem.run_bind, run_program, Result.andThen_ok, hf]
  rw [if_neg (by rw [hn]; simp), hb]
  simp only [Option.isNone_none, if_true, Sem.run_bind, h1, h2]
  simp [mark, Sem.run]

/-- internal/abi.NoEscape. -/
theorem ext_noescape {f : FuncId} (hb : Bare P f Extern.AbiNoEscape.same) {v : AV} {H : List AObj} : ExtA P f [v] H fun e H' => e = .ret v ∧ H' = H := by
  intro G W vs hv r
  cases hv with
  | cons hx hl =>
    cases hl
    exact ⟨v, _, H, G, W, ⟨rfl, rfl⟩, by rw [hb.run, Lib.run_noEscape]; rfl, hx, r, .refl G⟩
/-- maps.clone. -/
theorem ext_clone {f : FuncId} (hb : Bare P f Extern.MapsClone.clone) {t : TypeId} {m c : Nat} {es : List (Nat × AV × AV)} {H : List AObj} (hm : H[m]? = some (.map es c)) : ExtA P f [.iface t (.mapv m)] H fun e H' => e = .ret (.iface t (.mapv H.length)) ∧ H' = H ++ [.map es c] := by
  intro G W vs hv r
  cases hv with
  | cons hx hl =>
    cases hl
    obtain ⟨y, rfl, hy⟩ := hx.iface_inv
    obtain ⟨b, hp, rfl⟩ := hy.mapv_inv
    obtain ⟨b', ms, hp', _, hbk, hes⟩ := r.obj m _ hm
    rw [hp] at hp'
    simp only [Option.some.injEq, Prod.mk.injEq, and_true] at hp'
    subst hp'
    have hle0 := Gh.withBlock_le (b := W.heap.size) (r.place_none (Nat.le_refl _)) r.nf
    obtain ⟨r', hle⟩ := r.new_last (ob := .map ms c) (o' := .map es c) ⟨W.heap.size, ms, place_withBlock, fun _ => own_withBlock, by show (W.heap.push _)[W.heap.size]? = _; simp, hes.mono hle0⟩
    refine ⟨_, .iface t (.map (some W.heap.size)), _, _, _, ⟨rfl, rfl⟩, ?_, .iface (.mapv place_withBlock), r', hle⟩
    have hdef : Extern.MapsClone.clone [Value.iface t (.map (some b))].toArray = (do
        let ob ← getObj b
        match ob with
        | .map entries clock => do pure (.iface t (.map (some (← newObj (.map entries clock)))))
        | _ => stuck "maps.clone: a map expected") := rfl
    rw [hb.run, hdef]
    simp [MapKept.run_getObj_map hbk]

/-! ### Pointers -/
theorem op_ptr_same {t te u : TypeId} {x y : Operand} {k i : Nat} {b : Bool} {j : TypeInfo} (ho : (o.op = .binOp .eql t x y u ∧ b = true) ∨ (o.op = .binOp .neq t x y u ∧ b = false)) (hd : dstOK o.dst s.n = true) (ht : P.underlying t = some (.pointer te)) (hj : P.info? te = some j) (hx : s.ev x = some (.ptr k i)) (hy : s.ev y = some (.ptr k i)) (h : N (s.put o.dst (.bool b))) : AOp P o N Q s :=
  op_val hd (fun G W a ra _ => by
    obtain ⟨b0, off, hp, he⟩ := (ev_eval ra hx).ptr_inv
    obtain ⟨b1, off1, hp1, he1⟩ := (ev_eval ra hy).ptr_inv
    rw [hp] at hp1
    simp only [Option.some.injEq, Prod.mk.injEq] at hp1
    obtain ⟨rfl, rfl⟩ := hp1
    have heq : ∀ d : Nat, (Op.equalIn (d + 1) t (.pointer (some ⟨b0, off + i, none⟩)) (.pointer (some ⟨b0, off + i, none⟩))).run P W = .ok true W := fun d => by
      simp [Op.equalIn, run_underlying ht, sizeOf, typeInfo, hj, run_sameAddr_same]
    have heq' : (Op.equal t (.pointer (some ⟨b0, off + i, none⟩)) (.pointer (some ⟨b0, off + i, none⟩))).run P W = .ok true W := heq 9999
    rcases ho with ⟨ho, rfl⟩ | ⟨ho, rfl⟩
    · refine ⟨.bool true, ?_, .bool _⟩
      unfold execOp
      simp only [ho, he, he1]
      simp only [eqGuard, binOp]
      simp [heq']
    · refine ⟨.bool false, ?_, .bool _⟩
      unfold execOp
      simp only [ho, he, he1]
      simp only [eqGuard, binOp]
      simp [heq']) h

theorem shape_at {G : Gh} {H : List AObj} {W : World} (r : R G H W) {k b off : Nat} {t : TypeId} {cs : List AV} (hk : H[k]? = some (.cells t cs)) (hp : G.place k = some (b, off)) : off = 0 ∧ W.shape? b = some (t, cs.length) := by
  obtain ⟨b', vs, hp', _, hl, hb⟩ := r.obj k _ hk
  rw [hp] at hp'; simp only [Option.some.injEq, Prod.mk.injEq] at hp'
  obtain ⟨rfl, rfl⟩ := hp'
  exact ⟨rfl, by simp [World.shape?, hb, hl.length]⟩
theorem op_to_unsafe {src dst te ct : TypeId} {x : Operand} {k i : Nat} {cs : List AV} {j : TypeInfo} (ho : o.op = .convert src dst x) (hd : dstOK o.dst s.n = true) (hs : P.underlying src = some (.pointer te)) (hdd : P.underlying dst = some .unsafePointer) (hj : P.info? te = some j) (hj0 : j.size ≠ 0) (hx : s.ev x = some (.ptr k i)) (hk : s.H[k]? = some (.cells ct cs)) (hi : i < cs.length) (h : N (s.put o.dst (.ptr k i))) : AOp P o N Q s :=
  op_val hd (fun G W a ra r => by
    obtain ⟨b, off, hp, he⟩ := (ev_eval ra hx).ptr_inv
    obtain ⟨rfl, hsh⟩ := shape_at r hk hp
    refine ⟨_, ?_, .ptr hp⟩
    unfold execOp
    simp only [ho, he]
    rw [Sem.run_bind, Lib.run_to_unsafe (P := P) W ⟨b, 0 + i, none⟩ hs hdd hj hj0 hsh (by simpa using hi)]; rfl) h
theorem op_from_unsafe {src dst te ct : TypeId} {x : Operand} {k i : Nat} {cs : List AV} {j : TypeInfo} (ho : o.op = .convert src dst x) (hd : dstOK o.dst s.n = true) (hs : P.underlying src = some .unsafePointer) (hdd : P.underlying dst = some (.pointer te)) (hj : P.info? te = some j) (hx : s.ev x = some (.ptr k i)) (hk : s.H[k]? = some (.cells ct cs)) (hl : liesAt P P.depth ct (cs.length / P.cellsOf ct) i te 1 = true) (h : N (s.put o.dst (.ptr k i))) : AOp P o N Q s :=
  op_val hd (fun G W a ra r => by
    obtain ⟨b, off, hp, he⟩ := (ev_eval ra hx).ptr_inv
    obtain ⟨rfl, hsh⟩ := shape_at r hk hp
    refine ⟨_, ?_, .ptr hp⟩
    unfold execOp
    simp only [ho, he]
    rw [Sem.run_bind, Lib.run_from_unsafe (P := P) W ⟨b, 0 + i, none⟩ hs hdd hj hsh (by simpa using hl)]; rfl) h

/-! ### A row's bytes as a string -/
theorem op_slicedata {x : Operand} {xs : List AV} {g : Nat} {ts : Array TypeId} (ho : o.op = .call { callee := .builtin .unsafeSliceData, args := #[x], argTypes := ts }) (hd : dstOK o.dst s.n = true) (hx : s.ev x = some (.lst xs (some g))) (hne : xs ≠ []) (h : N (s.put o.dst (.dptr xs g))) : AOp P o N Q s :=
  op_val hd (fun G W a ra r => by
    have hrel := ev_eval ra hx
    generalize hev : a.eval x = v at hrel
    cases hrel with
    | @lst k _ _ vs b o' cap hl hk hi ht hc =>
      obtain ⟨rfl, hgen⟩ := ht
      have hcap : cap ≠ 0 := by
        have : 0 < xs.length := List.length_pos_iff.2 hne
        omega
      refine ⟨.pointer (some ⟨b, 0, none⟩), ?_, .dptr hl (fun j v hv => by have := hi j v hv; rwa [Nat.zero_add] at this) hgen⟩
      unfold execOp
      simp only [ho]
      simp [resolve, invoke, builtin, hev, Lib.run_unsafeSliceData_row (P := P) W _ _ _ _ _ hcap]) h
theorem op_slicedata_nil {x : Operand} {ts : Array TypeId} (ho : o.op = .call { callee := .builtin .unsafeSliceData, args := #[x], argTypes := ts }) (hd : dstOK o.dst s.n = true) (hx : s.ev x = some .nils) (h : N (s.put o.dst .nilp)) : AOp P o N Q s :=
  op_val hd (fun G W a ra r => by
    have hrel := ev_eval ra hx
    generalize hev : a.eval x = v at hrel
    cases hrel
    have hdef : Builtin.unsafeSliceData_ ts o.type #[Value.slice none 0 0] = pure (.pointer none) := rfl
    refine ⟨.pointer none, ?_, .nilp⟩
    unfold execOp
    simp only [ho]
    simp [resolve, invoke, builtin, hev, hdef]) h

theorem freeze_self {W : World} {b n : Nat} {c : Array Value} {t : TypeId} {f : Nat × Nat} (hb : W.heap[b]? = some (.cells c t f)) (hf : frzOK f n) : ∃ f', (W.freeze ⟨b, 0, none⟩ n).heap[b]? = some (.cells c t f') ∧ frzOK f' n := by
  unfold World.freeze
  by_cases h0 : n = 0
  · rw [if_pos h0]; exact ⟨f, hb, hf⟩
  · rw [if_neg h0]
    obtain ⟨lo, hi⟩ := f
    refine ⟨if lo == hi then (0, 0 + n) else (min lo 0, max hi (0 + n)), by simp [Array.getElem?_modify, hb], ?_⟩
    split
    · exact .inr (by simp)
    · rename_i hne
      rcases hf with h | h
      · exact absurd (by simpa using h) hne
      · exact .inr (by simp only [Nat.zero_add] at h ⊢; omega)
theorem freeze_other {W : World} {b n c : Nat} (hc : c ≠ b) : (W.freeze ⟨b, 0, none⟩ n).heap[c]? = W.heap[c]? := by
  unfold World.freeze
  split
  · rfl
  · simp [Array.getElem?_modify, Ne.symm hc]
theorem freeze_same {W : World} {a : Addr} {n : Nat} : (W.freeze a n).os = W.os ∧ (W.freeze a n).tape = W.tape ∧ (W.freeze a n).output = W.output ∧ (W.freeze a n).heap.size = W.heap.size := by
  unfold World.freeze
  split <;> simp
theorem R.freeze {G : Gh} {H : List AObj} {W : World} (r : R G H W) {g n b cap : Nat} {t : TypeId} (hg : H[g]? = some (.tok t 1 n)) (hgen : G.gen g n = some (b, cap)) : R G H (W.freeze ⟨b, 0, none⟩ n) := by
  obtain ⟨b', cap', c, f, h1, h2, h3, h4, h5, h6, h7⟩ := r.obj g _ hg
  rw [hgen] at h1; simp only [Option.some.injEq, Prod.mk.injEq] at h1
  obtain ⟨rfl, rfl⟩ := h1
  rw [Nat.mul_one] at h7
  obtain ⟨f', hf1, hf2⟩ := freeze_self h5 h7
  obtain ⟨e1, e2, e3, e4⟩ := freeze_same (W := W) (a := ⟨b, 0, none⟩) (n := n)
  have hb0 := r.ownB (h4 (n * 1) (Nat.le_refl _))
  have hset : H.set g (.tok t 1 n) = H := by
    apply List.ext_getElem?
    intro j
    by_cases e : j = g
    · subst e; rw [List.getElem?_set_self (R.lt_of hg), hg]
    · rw [List.getElem?_set_ne (Ne.symm e)]
  rw [← hset]
  refine r.upd (.refl G) (R.lt_of hg) (r.not_fixed (by rw [hg]; simp)) ?_ r.apart ?_ r.sep r.dom r.domg ?_ ?_ ?_ (fun _ _ _ _ h => h)
  · intro q i v h
    have h1 := r.imm q i v h
    by_cases e : q = b
    · subst e
      simp only [World.cell?, hf1]
      simpa [World.cell?, h5] using h1
    · rw [World.cell?_of_block (w := W) (freeze_other e)]; exact h1
  · intro q i p h; rw [e4]; exact r.ownB h
  · exact ⟨e1, e2, e3, by rw [e4]; exact Nat.le_refl _, fun q hq => freeze_other (by rintro rfl; exact hb0.1 hq)⟩
  · exact ⟨b, cap, c, f', hgen, h2, h3, h4, hf1, h6, by rw [Nat.mul_one]; exact hf2⟩
  · intro q c' i j hq h
    exact ⟨h, freeze_other (r.ne_block h (h4 (n * 1) (Nat.le_refl _)) hq)⟩

theorem op_unsafestring {pt it e : TypeId} {x y : Operand} {l : Str} {g : Nat} (ho : o.op = .call { callee := .builtin .unsafeString, args := #[x, y], argTypes := #[pt, it] }) (hd : dstOK o.dst s.n = true) (hp : P.underlying pt = some (.pointer e)) (hc : P.cellsOf e = 1) (hx : s.ev x = some (.dptr (bytesA l) g)) (hy : s.ev y = some (.int .i64 l.length)) (h0 : l ≠ []) (hg : s.H[g]? = some (.tok e 1 l.length)) (h63 : l.length ≤ 9223372036854775807) (h : N (s.put o.dst (.str l))) : AOp P o N Q s := by
  refine op_gen (s' := s) rfl rfl rfl hd (fun G W a ra r => ?_) h
  have hrel := ev_eval ra hx
  have hyv := (ev_eval ra hy).int_inv
  generalize hev : a.eval x = v at hrel
  cases hrel with
  | @dptr _ _ vs b cap hl hi hgen =>
    have hbl : (bytesA l).length = l.length := by simp [bytesA]
    rw [hbl] at hgen
    obtain ⟨b', cap', c, f, h1, h2, h3, h4, h5, h6, h7⟩ := r.obj g _ hg
    rw [hgen] at h1; simp only [Option.some.injEq, Prod.mk.injEq] at h1
    obtain ⟨rfl, rfl⟩ := h1
    have hrun := Lib.run_unsafeString_row (P := P) W pt it o.type e hp hc b c.size (by simp [World.shape?, h5]) l h0 (by omega) h63 ?_
    · refine ⟨.string (mkS l), G, W.freeze ⟨b, 0, none⟩ l.length, ?_, .str _, r.freeze hg hgen, .refl G⟩
      unfold execOp
      simp only [ho]
      simp [resolve, invoke, builtin, hev, hyv, hrun]
      rfl
    · intro j x hx
      have hb : (bytesA l)[j]? = some (.int .u8 x.toNat) := by simp [bytesA, hx]
      rw [bytes_flat] at hl
      obtain ⟨v, hv, hrv⟩ := hl.get j _ hb
      rw [hrv.int_inv] at hv
      rw [add_eq, Nat.zero_add]
      exact r.imm _ _ _ (hi j _ hv)
theorem op_unsafestring_nil {pt it : TypeId} {x y : Operand} (ho : o.op = .call { callee := .builtin .unsafeString, args := #[x, y], argTypes := #[pt, it] }) (hd : dstOK o.dst s.n = true) (hx : s.ev x = some .nilp) (hy : s.ev y = some (.int .i64 0)) (h : N (s.put o.dst (.str []))) : AOp P o N Q s :=
  op_val hd (fun G W a ra r => by
    have hxv := (ev_eval ra hx).nilp_inv
    have hyv := (ev_eval ra hy).int_inv
    refine ⟨.string .empty, ?_, Rv.str_of .empty⟩
    unfold execOp
    simp only [ho]
    simp [resolve, invoke, builtin, hxv, hyv, Lib.run_unsafeString_none (P := P) W pt it o.type none]) h
end
end Go.Abs
