/- The abstract layer: calls; what a call has laid and nobody holds is forgotten; literals; results. -/
import Derived.Test.YtjmedgagpheofaaGreatDoorF6
set_option linter.unusedSectionVars false
set_option linter.unusedVariables false
set_option linter.unusedSimpArgs false
set_option linter.constructorNameAsVariable false
namespace Go.Abs
open Go.RowKit
variable [Tabs]

structure Ent (P : Program) (f : FuncId) : Prop where
  run : ∀ args W, (callFunc f args).run P W = .ok (.enter f args) W
theorem ent_of {P : Program} {f : FuncId} {fn : Func} {c : Code} (hf : P.funcs[f]? = some fn) (hn : (fn.name == "runtime.NumGoroutine") = false) (hb : fn.body = some c) : Ent P f :=
  ⟨fun args W => by
    unfold callFunc
    simp only [Sem.run_bind, run_program, Result.andThen_ok, hf]
    rw [if_neg (by rw [hn]; simp), hb]
    simp⟩

/-! ### Weaker descriptions -/
mutual
inductive Wk : AV → AV → Prop
  | refl (a : AV) : Wk a a
  | agg {as bs : List AV} : WkL as bs → Wk (.agg as) (.agg bs)
  | tuple {as bs : List AV} : WkL as bs → Wk (.tuple as) (.tuple bs)
  | nils : Wk .nils (.lst [] none)
  | lst {xs ys : List AV} {tok : Option Nat} : WkL xs ys → Wk (.lst xs tok) (.lst ys none)
  | iface {t : TypeId} {a b : AV} : Wk a b → Wk (.iface t a) (.iface t b)
inductive WkL : List AV → List AV → Prop
  | nil : WkL [] []
  | cons {a b : AV} {as bs : List AV} : Wk a b → WkL as bs → WkL (a :: as) (b :: bs)
end
theorem WkL.refl : ∀ as : List AV, WkL as as
  | [] => .nil
  | a :: as => .cons (.refl a) (WkL.refl as)
theorem WkL.length : ∀ {as bs : List AV}, WkL as bs → as.length = bs.length
  | _, _, .nil => rfl
  | _, _, .cons _ h => by simp [WkL.length h]
theorem WkL.append : ∀ {as bs cs ds : List AV}, WkL as bs → WkL cs ds → WkL (as ++ cs) (bs ++ ds)
  | _, _, _, _, .nil, h => h
  | _, _, _, _, .cons ha hl, h => .cons ha (WkL.append hl h)
theorem Wk.cells {a b : AV} (h : Wk a b) : WkL a.cells b.cells := by
  cases h with
  | refl => exact WkL.refl _
  | agg h => exact h
  | tuple h => exact .cons (.tuple h) .nil
  | nils => exact .cons .nils .nil
  | lst h => exact .cons (.lst h) .nil
  | iface h => exact .cons (.iface h) .nil
theorem WkL.flat : ∀ {as bs : List AV}, WkL as bs → WkL (as.flatMap AV.cells) (bs.flatMap AV.cells)
  | _, _, .nil => .nil
  | _, _, .cons ha hl => by simpa using ha.cells.append (WkL.flat hl)
theorem WkL.mem_len : ∀ {as bs : List AV}, WkL as bs → ∀ {k : Nat}, (∀ x ∈ as, x.cells.length = k) → ∀ y ∈ bs, y.cells.length = k
  | _, _, .nil, _, _, y, hy => by cases hy
  | _, _, .cons ha hl, k, h, y, hy => by
    cases hy with
    | head => rw [← ha.cells.length]; exact h _ (by simp)
    | tail _ hm => exact WkL.mem_len hl (fun x hx => h x (by simp [hx])) y hm

mutual
theorem Rv.wk {G : Gh} : ∀ {a : AV} {v : Value} {b : AV}, Rv G a v → Wk a b → Rv G b v
  | _, _, _, h, .refl _ => h
  | _, _, _, .agg hl, .agg hw => .agg (RvL.wk hl hw)
  | _, _, _, .tuple hl, .tuple hw => .tuple (RvL.wk hl hw)
  | _, _, _, .nils, .nils => .lnil
  | _, _, _, .lnil, .lst hw => by cases hw; exact .lnil
  | _, _, _, .lst hl hk hi ht hc, .lst hw => by
    rw [hw.length] at hc ⊢
    exact .lst (RvL.wk hl hw.flat) (hw.mem_len hk) hi trivial hc
  | _, _, _, .iface ha, .iface hw => .iface (Rv.wk ha hw)
theorem RvL.wk {G : Gh} : ∀ {as : List AV} {vs : List Value} {bs : List AV}, RvL G as vs → WkL as bs → RvL G bs vs
  | _, _, _, .nil, .nil => .nil
  | _, _, _, .cons ha hl, .cons hw hws => .cons (Rv.wk ha hw) (RvL.wk hl hws)
end

/-! ### What refers to few objects -/
mutual
inductive Lo (n : Nat) : AV → Prop
  | bool (b : Bool) : Lo n (.bool b)
  | int (k : IntKind) (i : Int) : Lo n (.int k i)
  | str (l : Str) : Lo n (.str l)
  | agg {cs : List AV} : LoL n cs → Lo n (.agg cs)
  | tuple {cs : List AV} : LoL n cs → Lo n (.tuple cs)
  | nilp : Lo n .nilp
  | ptr {r i : Nat} : r < n → Lo n (.ptr r i)
  | iptr {cs : List AV} : LoL n cs → Lo n (.iptr cs)
  | nils : Lo n .nils
  | lst {xs : List AV} {tok : Option Nat} : LoL n (xs.flatMap AV.cells) → (∀ g, tok = some g → g < n) → Lo n (.lst xs tok)
  | emp : Lo n .emp
  | slc {r k off m : Nat} : r < n → Lo n (.slc r k off m)
  | dptr {xs : List AV} {g : Nat} : LoL n (xs.flatMap AV.cells) → g < n → Lo n (.dptr xs g)
  | func {fn : Fn} {cs : List AV} : LoL n cs → Lo n (.func fn cs)
  | nilf : Lo n .nilf
  | nilm : Lo n .nilm
  | mapv {r : Nat} : r < n → Lo n (.mapv r)
  | iface {t : TypeId} {a : AV} : Lo n a → Lo n (.iface t a)
  | nili : Lo n .nili
inductive LoL (n : Nat) : List AV → Prop
  | nil : LoL n []
  | cons {a : AV} {as : List AV} : Lo n a → LoL n as → LoL n (a :: as)
end
theorem LoL.append {n : Nat} : ∀ {as bs : List AV}, LoL n as → LoL n bs → LoL n (as ++ bs)
  | _, _, .nil, h => h
  | _, _, .cons ha hl, h => .cons ha (LoL.append hl h)
theorem Lo.cells {n : Nat} {a : AV} (h : Lo n a) : LoL n a.cells := by
  cases h
  case agg hl => exact hl
  all_goals exact .cons (by constructor <;> assumption) .nil
theorem LoL.flat {n : Nat} : ∀ {as : List AV}, (∀ a ∈ as, Lo n a) → LoL n (as.flatMap AV.cells)
  | [], _ => .nil
  | a :: as, h => by
    simp only [List.flatMap_cons]
    exact (h a (by simp)).cells.append (LoL.flat fun x hx => h x (by simp [hx]))

mutual
theorem Rv.lo {G : Gh} {n : Nat} (hp : ∀ r p, G.place r = some p → r < n) (hg : ∀ g m p, G.gen g m = some p → g < n) : ∀ {a : AV} {v : Value}, Rv G a v → Lo n a
  | _, _, .bool b => .bool b
  | _, _, .int k i => .int k i
  | _, _, .str l => .str l
  | _, _, .agg hl => .agg (RvL.lo hp hg hl)
  | _, _, .tuple hl => .tuple (RvL.lo hp hg hl)
  | _, _, .nilp => .nilp
  | _, _, .ptr h => .ptr (hp _ _ h)
  | _, _, .iptr hl _ => .iptr (RvL.lo hp hg hl)
  | _, _, .nils => .nils
  | _, _, .lnil => .lst .nil (by simp)
  | _, _, .lst hl _ _ ht _ => .lst (RvL.lo hp hg hl) (fun g e => by subst e; exact hg _ _ _ ht.2)
  | _, _, .emp => .emp
  | _, _, .slc h _ _ => .slc (hp _ _ h)
  | _, _, .dptr hl _ h => .dptr (RvL.lo hp hg hl) (hg _ _ _ h)
  | _, _, .func hl => .func (RvL.lo hp hg hl)
  | _, _, .nilf => .nilf
  | _, _, .nilm => .nilm
  | _, _, .mapv h => .mapv (hp _ _ h)
  | _, _, .iface ha => .iface (Rv.lo hp hg ha)
  | _, _, .nili => .nili
theorem RvL.lo {G : Gh} {n : Nat} (hp : ∀ r p, G.place r = some p → r < n) (hg : ∀ g m p, G.gen g m = some p → g < n) : ∀ {as : List AV} {vs : List Value}, RvL G as vs → LoL n as
  | _, _, .nil => .nil
  | _, _, .cons ha hl => .cons (Rv.lo hp hg ha) (RvL.lo hp hg hl)
end

def Gh.cut (G : Gh) (n : Nat) : Gh := { G with place := fun r => if r < n then G.place r else none, gen := fun g m => if g < n then G.gen g m else none }

mutual
theorem Rv.cut {G : Gh} {n : Nat} : ∀ {a : AV} {v : Value}, Rv G a v → Lo n a → Rv (G.cut n) a v
  | _, _, .bool b, _ => .bool b
  | _, _, .int k i, _ => .int k i
  | _, _, .str l, _ => .str l
  | _, _, .agg hl, .agg h => .agg (RvL.cut hl h)
  | _, _, .tuple hl, .tuple h => .tuple (RvL.cut hl h)
  | _, _, .nilp, _ => .nilp
  | _, _, .ptr hp, .ptr h => .ptr (by simp only [Gh.cut]; rw [if_pos h]; exact hp)
  | _, _, .iptr hl hi, .iptr h => .iptr (RvL.cut hl h) hi
  | _, _, .nils, _ => .nils
  | _, _, .lnil, _ => .lnil
  | _, _, .lst (tok := tok) hl hk hi ht hc, .lst h hg => .lst (RvL.cut hl h) hk hi (by
      cases tok with
      | none => trivial
      | some g => exact ⟨ht.1, by simp only [Gh.cut]; rw [if_pos (hg g rfl)]; exact ht.2⟩) hc
  | _, _, .emp, _ => .emp
  | _, _, .slc hp hg hn, .slc h => .slc (by simp only [Gh.cut]; rw [if_pos h]; exact hp) (by simp only [Gh.cut]; rw [if_pos h]; exact hg) hn
  | _, _, .dptr hl hi hg, .dptr h h' => .dptr (RvL.cut hl h) hi (by simp only [Gh.cut]; rw [if_pos h']; exact hg)
  | _, _, .func hl, .func h => .func (RvL.cut hl h)
  | _, _, .nilf, _ => .nilf
  | _, _, .nilm, _ => .nilm
  | _, _, .mapv hp, .mapv h => .mapv (by simp only [Gh.cut]; rw [if_pos h]; exact hp)
  | _, _, .iface ha, .iface h => .iface (Rv.cut ha h)
  | _, _, .nili, _ => .nili
theorem RvL.cut {G : Gh} {n : Nat} : ∀ {as : List AV} {vs : List Value}, RvL G as vs → LoL n as → RvL (G.cut n) as vs
  | _, _, .nil, _ => .nil
  | _, _, .cons ha hl, .cons h hs => .cons (Rv.cut ha h) (RvL.cut hl hs)
end

def entriesLo (n : Nat) : List (Nat × AV × AV) → Prop
  | [] => True
  | (_, k, x) :: es => Lo n k ∧ Lo n x ∧ entriesLo n es
theorem entriesOK.lo {G : Gh} {n : Nat} (hp : ∀ r p, G.place r = some p → r < n) (hg : ∀ g m p, G.gen g m = some p → g < n) : ∀ {es : List (Nat × AV × AV)} {ms : List MapEntry}, entriesOK G es ms → entriesLo n es
  | [], [], _ => trivial
  | (_, k, x) :: es, m :: ms, ⟨_, h1, h2, h3⟩ => ⟨h1.lo hp hg, h2.lo hp hg, entriesOK.lo hp hg h3⟩
  | [], _ :: _, h => h.elim
  | _ :: _, [], h => h.elim
theorem entriesOK.cut {G : Gh} {n : Nat} : ∀ {es : List (Nat × AV × AV)} {ms : List MapEntry}, entriesOK G es ms → entriesLo n es → entriesOK (G.cut n) es ms
  | [], [], _, _ => trivial
  | (_, k, x) :: es, m :: ms, ⟨h0, h1, h2, h3⟩, ⟨l1, l2, l3⟩ => ⟨h0, h1.cut l1, h2.cut l2, entriesOK.cut h3 l3⟩
  | [], _ :: _, h, _ => h.elim
  | _ :: _, [], h, _ => h.elim

def objLo (n : Nat) : AObj → Prop
  | .cells _ cs => LoL n cs
  | .row _ _ _ cs => LoL n cs
  | .map es _ => entriesLo n es
  | .iter (some m) _ _ _ => m < n
  | _ => True

theorem R.objs_lo {G : Gh} {H : List AObj} {W : World} (r : R G H W) {k : Nat} {o : AObj} (h : H[k]? = some o) : objLo H.length o := by
  have := r.obj k o h
  cases o with
  | cells t cs => obtain ⟨b, vs, _, _, hl, _⟩ := this; exact hl.lo r.dom r.domg
  | row t k n cs => obtain ⟨b, cap, vs, c, _, _, _, _, hl, _⟩ := this; exact hl.lo r.dom r.domg
  | map es c => obtain ⟨b, ms, _, _, _, he⟩ := this; exact he.lo r.dom r.domg
  | iter m since seen last =>
    obtain ⟨b, bm, _, _, hi, _⟩ := this
    cases m with
    | none => trivial
    | some m => cases bm with
      | none => exact hi.elim
      | some bm => exact r.dom _ _ hi
  | tok => trivial
  | dead => trivial

/-- Objects from n on are forgotten. -/
theorem R.forget {G : Gh} {H : List AObj} {W : World} (r : R G H W) {n : Nat} (hn : n ≤ H.length) (hfx : ∀ g, G.fixed g → g < n) (hlo : ∀ k o, k < n → H[k]? = some o → objLo n o) : R (G.cut n) (H.take n) W where
  imm := r.imm
  apart := r.apart
  own := r.own
  sep := r.sep
  fixed := fun g hg => by
    have h1 := r.fixed g hg
    have hl : g < n := hfx g hg
    rw [List.getElem?_take_of_lt hl]; exact h1
  dom := fun k p h => by
    simp only [Gh.cut] at h
    split at h
    · simp; omega
    · cases h
  domg := fun g m p h => by
    simp only [Gh.cut] at h
    split at h
    · simp; omega
    · cases h
  below := r.below
  base := r.base
  tab := r.tab
  obj := fun k o h => by
    have hk : k < n := by
      rcases Nat.lt_or_ge k n with h' | h'
      · exact h'
      · rw [List.getElem?_eq_none (by simp; omega)] at h; cases h
    rw [List.getElem?_take_of_lt hk] at h
    have hro := r.obj k o h
    have hl := hlo k o hk h
    have hpl : ∀ p, G.place k = some p → (G.cut n).place k = some p := fun p hp => by simp only [Gh.cut]; rw [if_pos hk]; exact hp
    have hgl : ∀ m p, G.gen k m = some p → (G.cut n).gen k m = some p := fun m p hp => by simp only [Gh.cut]; rw [if_pos hk]; exact hp
    have hgl' : ∀ m p, (G.cut n).gen k m = some p → G.gen k m = some p := fun m p hp => by simp only [Gh.cut] at hp; rw [if_pos hk] at hp; exact hp
    cases o with
    | cells t cs =>
      obtain ⟨b, vs, h1, h2, h3, h4⟩ := hro
      exact ⟨b, vs, hpl _ h1, h2, h3.cut hl, h4⟩
    | tok t kk m =>
      obtain ⟨b, cap, c, f, h1, h2, h3, h4⟩ := hro
      exact ⟨b, cap, c, f, hgl _ _ h1, h2, fun q p hq => h3 q p (hgl' _ _ hq), h4⟩
    | row t kk m cs =>
      obtain ⟨b, cap, vs, c, h1, h2, h3, h4, h5, h6⟩ := hro
      exact ⟨b, cap, vs, c, hpl _ h1, hgl _ _ h2, fun q p hq => h3 q p (hgl' _ _ hq), h4, h5.cut hl, h6⟩
    | map es c =>
      obtain ⟨b, ms, h1, h2, h3, h4⟩ := hro
      exact ⟨b, ms, hpl _ h1, h2, h3, h4.cut hl⟩
    | iter m since seen last =>
      obtain ⟨b, bm, h1, h2, h3, h4⟩ := hro
      refine ⟨b, bm, hpl _ h1, h2, ?_, h4⟩
      cases m with
      | none => cases bm with
        | none => trivial
        | some bm => exact h3.elim
      | some m => cases bm with
        | none => exact h3.elim
        | some bm =>
          show (G.cut n).place m = _
          simp only [Gh.cut]; rw [if_pos (show m < n from hl)]; exact h3
    | dead => trivial

theorem Gh.le_cut {G G' : Gh} (h : G.le G') {n : Nat} (hp : ∀ r p, G.place r = some p → r < n) (hg : ∀ g m p, G.gen g m = some p → g < n) : G.le (G'.cut n) := by
  refine ⟨⟨fun r p hr => by simp only [Gh.cut]; rw [if_pos (hp r p hr)]; exact h.place r p hr, h.imm, fun g m p hm => by simp only [Gh.cut]; rw [if_pos (hg g m p hm)]; exact h.gen g m p hm⟩, h.kept, h.fixed, h.w0, h.newimm, fun g m p hm => ?_, fun g p hm => ?_⟩
  · simp only [Gh.cut] at hm
    split at hm
    · exact h.newgen g m p hm
    · cases hm
  · simp only [Gh.cut] at hm
    split at hm
    · exact h.newplace g p hm
    · cases hm

section
variable {P : Program}

/-- What a call has laid beyond the old objects is forgotten: its answer refers to none of it. -/
theorem CallsA.drop {f : FuncId} {args : List AV} {H : List AObj} {Q : AEnd → List AObj → Prop} (h : CallsA P f args H fun e H' => ∃ H0 new, H' = H0 ++ new ∧ H0.length = H.length ∧ (∀ o ∈ H0, o ∈ H ∨ objLo H.length o) ∧ Q e H0 ∧ (match e with | .ret v => Lo H.length v | .panic v => Lo H.length v)) : CallsA P f args H Q := by
  refine ⟨fun G W vs hv r => ?_⟩
  refine (h.out G W vs hv r).mono ?_
  rintro e W' ⟨ae, H', G', ⟨H0, new, rfl, hlen, hold, q, hlo⟩, re, r', hle⟩
  have hf := r'.forget (n := H.length) (by simp; omega) (fun g hg => by
    rw [hle.fixed] at hg
    have h1 := r.fixed g hg
    rcases Nat.lt_or_ge g H.length with h' | h'
    · exact h'
    · rw [List.getElem?_eq_none h'] at h1; cases h1) (fun k o hk ho => by
    rw [List.getElem?_append_left (by omega)] at ho
    rcases hold o (List.mem_of_getElem? ho) with hm | hm
    · obtain ⟨j, hj, rfl⟩ := List.getElem_of_mem hm
      exact r.objs_lo (List.getElem?_eq_getElem hj)
    · exact hm)
  rw [← hlen, List.take_left, hlen] at hf
  refine ⟨ae, H0, _, q, ?_, hf, Gh.le_cut hle r.dom r.domg⟩
  cases re with
  | ret hv => exact .ret (hv.cut hlo)
  | panic hv => exact .panic (hv.cut hlo)

/-- The plain case: the old objects stand as they stood. -/
theorem Pure.of {f : FuncId} {args : List AV} {H : List AObj} {v : AV} (hlo : Lo H.length v) (h : CallsA P f args H fun e H' => e = .ret v ∧ ∃ new, H' = H ++ new) : Pure P f args H v :=
  CallsA.drop (h.mono fun e H' ⟨he, new, hn⟩ => ⟨H, new, hn, rfl, fun o ho => .inl ho, ⟨he, rfl⟩, by subst he; exact hlo⟩)

/-- An answer told in a weaker way. -/
theorem CallsA.wk {f : FuncId} {args : List AV} {H : List AObj} {Q : AEnd → List AObj → Prop} (h : CallsA P f args H fun e H' => ∃ v v', e = .ret v ∧ Wk v v' ∧ Q (.ret v') H') : CallsA P f args H Q := by
  refine ⟨fun G W vs hv r => ?_⟩
  refine (h.out G W vs hv r).mono ?_
  rintro e W' ⟨ae, H', G', ⟨v, v', rfl, hw, q⟩, re, r', hle⟩
  cases re with
  | ret hv => exact ⟨_, H', G', q, .ret (hv.wk hw), r', hle⟩

/-- Arguments told in a weaker way. -/
theorem CallsA.args {f : FuncId} {args args' : List AV} {H : List AObj} {Q : AEnd → List AObj → Prop} (hw : WkL args args') (h : CallsA P f args' H Q) : CallsA P f args H Q :=
  ⟨fun G W vs hv r => h.out G W vs (hv.wk hw) r⟩

variable {Q : APost} {s : ASt} {N : ASt → Prop} {o : Oper}

theorem op_call {x : Operand} {xs : Array Operand} {ts : Array TypeId} {f : FuncId} {caps vs : List AV} (ho : o.op = .call { callee := .value x, args := xs, argTypes := ts }) (hd : dstOK o.dst s.n = true) (hf : s.ev x = some (.func (.func f) caps)) (he : Ent P f) (hv : evs s xs.toList = some vs)
    (h : CallsA P f (vs ++ caps) s.H fun e H' => match e with | .ret v => N (ASt.put { s with H := H' } o.dst v) | .panic v => Q (.panic v) { s with H := H' }) : AOp P o N Q s := by
  intro G W a ra r
  obtain ⟨ws, hw, hl⟩ := (ev_eval ra hf).func_inv
  have hargs := evs_eval ra hv
  have hx : (execOp a.eval o).run P W = .ok (.enter f (xs.toList.map a.eval ++ ws).toArray) W := by
    unfold execOp
    simp only [ho, hw]
    simp only [Sem.run_bind]
    have e1 : (resolve a.eval { callee := .value x, args := xs, argTypes := ts } o.type).run P W = .ok { target := .fn (.func f) ws.toArray, args := xs.map a.eval } W := by
      simp [resolve, hw, Deferred.ofValue]
    rw [e1]
    simp only [Result.andThen_ok]
    have e2 : (invoke (.fn (.func f) ws.toArray) (xs.map a.eval)) = callFunc f (xs.map a.eval ++ ws.toArray) := rfl
    rw [e2, he.run]
    congr 2
    apply Array.ext'
    simp
  unfold Oper.wp
  rw [hx, Oper.upon_enter]
  refine (h.out G W _ (hargs.append hl) r).mono ?_
  rintro e W' ⟨ae, H', G', q, re, r', hle⟩
  have ra' : RA G' { s with H := H' } a := ⟨ra.size, fun t v hv => (ra.env t v hv).mono hle, ra.defs.mono hle⟩
  cases re with
  | ret hv => exact ⟨_, G', q, ra'.put hd hv, by cases o.dst <;> exact r', hle⟩
  | panic hv => exact ⟨_, _, G', q, .panic hv, ra', r', hle⟩

theorem op_call_pure {x : Operand} {xs : Array Operand} {ts : Array TypeId} {f : FuncId} {caps vs : List AV} {v : AV} (ho : o.op = .call { callee := .value x, args := xs, argTypes := ts }) (hd : dstOK o.dst s.n = true) (hf : s.ev x = some (.func (.func f) caps)) (he : Ent P f) (hv : evs s xs.toList = some vs)
    (h : Pure P f (vs ++ caps) s.H v) (hN : N (s.put o.dst v)) : AOp P o N Q s :=
  op_call ho hd hf he hv (h.mono fun e H' ⟨h1, h2⟩ => by subst h1 h2; exact hN)
end

/-! ### Results -/
section
variable {P : Program}
theorem res_none {fn : Func} {s : ASt} (h : fn.results = #[]) : resultsA P fn s (.tuple []) := fun G W a _ _ => ⟨.tuple #[], by simp [results, h], .tuple .nil⟩
theorem res_one {fn : Func} {s : ASt} {t : Nat} {v : AV} (h : fn.results = #[.tmp t]) (hv : look t s.env = some v) : resultsA P fn s v := fun G W a ra _ => ⟨a.tmps.getD t undef, by simp [results, h], ra.env t v hv⟩
theorem res_two {fn : Func} {s : ASt} {t u : Nat} {v w : AV} (h : fn.results = #[.tmp t, .tmp u]) (hv : look t s.env = some v) (hw : look u s.env = some w) : resultsA P fn s (.tuple [v, w]) :=
  fun G W a ra _ => ⟨.tuple #[a.tmps.getD t undef, a.tmps.getD u undef], by simp [results, h], .tuple (vs := [_, _]) (.cons (ra.env t v hv) (.cons (ra.env u w hw) .nil))⟩
theorem run_result_cell {s : ASt} {a : Act} {G : Gh} {W : World} (ra : RA G s a) (r : R G s.H W) {t ty k i size : Nat} {agg : Bool} {ct : TypeId} {cs : List AV} (hv : look t s.env = some (.ptr k i)) (hk : s.H[k]? = some (.cells ct cs)) (ht : tyI P ty agg size = true) (hs : agg = true ∨ size = 1) (hn : decide (i + size ≤ cs.length) = true) :
    ∃ b off x, a.tmps.getD t undef = .pointer (some ⟨b, off, none⟩) ∧ (loadVar ty ⟨b, off, none⟩).run P W = .ok x W ∧ Rv G (mkAV agg ((cs.drop i).take size)) x := by
  obtain ⟨b, off, hp, he⟩ := (ra.env t _ hv).ptr_inv
  obtain ⟨vs, hl, hlen, hc⟩ := cells_of_obj r hk hp (of_decide_eq_true hn)
  exact ⟨b, off + i, mkV agg vs, he, run_loadVar ht hs hlen hc, mkAV_rel hl⟩
theorem res_cell {fn : Func} {s : ASt} {t ty k i size : Nat} {agg : Bool} {ct : TypeId} {cs : List AV} (h : fn.results = #[.cell t ty]) (hv : look t s.env = some (.ptr k i)) (hk : s.H[k]? = some (.cells ct cs)) (ht : tyI P ty agg size = true) (hs : agg = true ∨ size = 1) (hn : decide (i + size ≤ cs.length) = true) :
    resultsA P fn s (mkAV agg ((cs.drop i).take size)) := fun G W a ra r => by
  obtain ⟨b, off, x, he, hx, hr⟩ := run_result_cell (P := P) ra r hv hk ht hs hn
  refine ⟨x, ?_, hr⟩
  rw [Array.getD_eq_getD_getElem?] at he
  simp [results, h, he, asAddr, hx]
/-- A struct, and a plain result. -/
theorem res_cell_tmp {fn : Func} {s : ASt} {t u ty k i size : Nat} {agg : Bool} {ct : TypeId} {cs : List AV} {w : AV} (h : fn.results = #[.cell t ty, .tmp u]) (hv : look t s.env = some (.ptr k i)) (hk : s.H[k]? = some (.cells ct cs)) (ht : tyI P ty agg size = true) (hs : agg = true ∨ size = 1) (hn : decide (i + size ≤ cs.length) = true) (hw : look u s.env = some w) :
    resultsA P fn s (.tuple [mkAV agg ((cs.drop i).take size), w]) := fun G W a ra r => by
  obtain ⟨b, off, x, he, hx, hr⟩ := run_result_cell (P := P) ra r hv hk ht hs hn
  refine ⟨.tuple #[x, a.tmps.getD u undef], ?_, .tuple (vs := [_, _]) (.cons hr (.cons (ra.env u w hw) .nil))⟩
  rw [Array.getD_eq_getD_getElem?] at he
  simp [results, h, he, asAddr, hx]
theorem res_cell_cell {fn : Func} {s : ASt} {t u ty ty' k i k' i' size size' : Nat} {agg agg' : Bool} {ct ct' : TypeId} {cs cs' : List AV} (h : fn.results = #[.cell t ty, .cell u ty']) (hv : look t s.env = some (.ptr k i)) (hk : s.H[k]? = some (.cells ct cs)) (ht : tyI P ty agg size = true) (hs : agg = true ∨ size = 1) (hn : decide (i + size ≤ cs.length) = true)
    (hv' : look u s.env = some (.ptr k' i')) (hk' : s.H[k']? = some (.cells ct' cs')) (ht' : tyI P ty' agg' size' = true) (hs' : agg' = true ∨ size' = 1) (hn' : decide (i' + size' ≤ cs'.length) = true) :
    resultsA P fn s (.tuple [mkAV agg ((cs.drop i).take size), mkAV agg' ((cs'.drop i').take size')]) := fun G W a ra r => by
  obtain ⟨b, off, x, he, hx, hr⟩ := run_result_cell (P := P) ra r hv hk ht hs hn
  obtain ⟨b', off', x', he', hx', hr'⟩ := run_result_cell (P := P) ra r hv' hk' ht' hs' hn'
  refine ⟨.tuple #[x, x'], ?_, .tuple (vs := [_, _]) (.cons hr (.cons hr' .nil))⟩
  rw [Array.getD_eq_getD_getElem?] at he he'
  simp [results, h, he, he', asAddr, hx, hx']
end

end Go.Abs
