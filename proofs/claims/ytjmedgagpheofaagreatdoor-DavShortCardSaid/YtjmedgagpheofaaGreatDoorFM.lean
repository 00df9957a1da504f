/- The abstract layer: maps. -/
import Derived.Test.YtjmedgagpheofaaGreatDoorX5
import Derived.MapKept
set_option linter.unusedSectionVars false
set_option linter.unusedVariables false
set_option linter.unusedSimpArgs false
set_option linter.constructorNameAsVariable false
namespace Go.Abs
open Go.RowKit
variable [Tabs]

/-! ### A map as a list of entries -/
/-- Are two keys the same? none: this is not told. -/
def keyEq : AV → AV → Option Bool
  | .str a, .str b => some (decide (a = b))
  | .int k a, .int k' b => if k = k' then some (decide (a = b)) else none
  | _, _ => none
/-- Where a key stands; none: this is not told. -/
def findA (k : AV) : List (Nat × AV × AV) → Nat → Option (Option (Nat × AV))
  | [], _ => some none
  | (_, k', v) :: es, i => match keyEq k k' with
    | some true => some (some (i, v))
    | some false => findA k es (i + 1)
    | none => none
/-- May values be keys so? -/
def keyD : TypeDesc → AV → Bool
  | .string, .str _ => true
  | .int _, .int _ _ => true
  | _, _ => false
theorem mkS_beq (a b : Str) : (mkS a == mkS b) = decide (a = b) := by
  rw [Bool.eq_iff_iff, MapKept.bytes_beq]
  simp only [decide_eq_true_eq]
  exact ⟨fun e => by simpa [mkS] using e, fun e => by rw [e]⟩
theorem keyEq_now {G : Gh} {d : TypeDesc} {k k' : AV} {kv kv' : Value} {b : Bool} (hd : keyD d k = true) (hk : Rv G k kv) (hk' : Rv G k' kv') (h : keyEq k k' = some b) : Instr.sameNow d kv kv' = some b ∧ (b = true → kv' = kv) := by
  unfold keyEq at h
  split at h
  · cases d <;> simp [keyD] at hd
    cases hk; cases hk'
    simp only [Option.some.injEq] at h; subst h
    refine ⟨by simp [Instr.sameNow, mkS_beq], fun e => ?_⟩
    rw [of_decide_eq_true e]
  · split at h
    · rename_i e; subst e
      cases d <;> simp [keyD] at hd
      cases hk; cases hk'
      simp only [Option.some.injEq] at h; subst h
      refine ⟨?_, fun e => by rw [of_decide_eq_true e]⟩
      simp only [Instr.sameNow, if_true, Option.some.injEq]
      rw [Bool.eq_iff_iff]; simp
    · simp at h
  · simp at h

def FindR (G : Gh) (kv : Value) (es : List (Nat × AV × AV)) (ms : List MapEntry) (i : Nat) : Option (Nat × AV) → Option (Nat × Value) → Prop
  | none, none => True
  | some (j, v), some (j', v') => j = j' ∧ i ≤ j ∧ (∃ m, ms[j - i]? = some m ∧ m.key = kv ∧ m.val = v') ∧ Rv G v v'
  | _, _ => False
theorem findA_now {G : Gh} {d : TypeDesc} {k : AV} {kv : Value} (hd : keyD d k = true) (hk : Rv G k kv) : ∀ {es : List (Nat × AV × AV)} {ms : List MapEntry} {i : Nat} {r : Option (Nat × AV)}, entriesOK G es ms → findA k es i = some r →
    ∃ r', Instr.findNow d kv ms i = some r' ∧ FindR G kv es ms i r r'
  | [], [], i, r, _, h => by
    simp only [findA, Option.some.injEq] at h; subst h
    exact ⟨none, rfl, trivial⟩
  | (_, k', v) :: es, m :: ms, i, r, ⟨_, h1, h2, h3⟩, h => by
    simp only [findA] at h
    split at h
    · rename_i he
      obtain ⟨e1, e2⟩ := keyEq_now hd hk h1 he
      simp only [Option.some.injEq] at h; subst h
      exact ⟨some (i, m.val), by simp [Instr.findNow, e1], rfl, Nat.le_refl _, ⟨m, by simp, e2 rfl, rfl⟩, h2⟩
    · rename_i he
      obtain ⟨e1, e2⟩ := keyEq_now hd hk h1 he
      obtain ⟨r', hr', hm⟩ := findA_now hd hk h3 h
      refine ⟨r', by simp [Instr.findNow, e1, hr'], ?_⟩
      match r, r', hm with
      | none, none, _ => trivial
      | some (j, v), some (j', v'), ⟨e, hj, ⟨m', hm', hk', hv'⟩, hv⟩ =>
        have e3 : j - i = (j - (i + 1)) + 1 := by omega
        exact ⟨e, by omega, ⟨m', by rw [e3]; simpa using hm', hk', hv'⟩, hv⟩
    · simp at h
  | [], _ :: _, _, _, h, _ => h.elim
  | _ :: _, [], _, _, h, _ => h.elim

theorem run_checkKey {P : Program} {d : TypeDesc} {kt : TypeId} {k : AV} {kv : Value} {G : Gh} (ht : P.underlying kt = some d) (hd : keyD d k = true) (hk : Rv G k kv) (b : Bool) (n : Nat) (W : World) : (Instr.checkKey b (n + 1) kt kv).run P W = .ok () W := by
  cases d <;> cases k <;> simp [keyD] at hd <;> cases hk <;> simp [Instr.checkKey, underlying, ht]
theorem run_findKey {P : Program} {d : TypeDesc} {kt : TypeId} {kv : Value} {ms : List MapEntry} {r' : Option (Nat × Value)} (ht : P.underlying kt = some d) (h : Instr.findNow d kv ms 0 = some r') (W : World) : (Instr.findKey kt kv ms).run P W = .ok r' W := by
  simp [Instr.findKey, underlying, ht, h]
theorem run_stays {P : Program} {d : TypeDesc} {k : AV} {kv : Value} {G : Gh} (hd : keyD d k = true) (hk : Rv G k kv) (W : World) : (Instr.keyThatStays kv kv).run P W = .ok kv W := by
  cases d <;> cases k <;> simp [keyD] at hd <;> cases hk <;> simp [Instr.keyThatStays, Instr.sameBits, mkS_beq]

/-! ### A map in the heap -/
theorem RO_new_map {G : Gh} {W : World} {k : Nat} : RO (G.withBlock k W.heap.size) (W.alloc (.map #[] 0)) k (.map [] 0) :=
  ⟨W.heap.size, #[], place_withBlock, fun _ => own_withBlock, by show (W.heap.push _)[W.heap.size]? = _; simp, trivial⟩
theorem R.new_map {G : Gh} {H : List AObj} {W : World} (r : R G H W) : R (G.withBlock H.length W.heap.size) (H ++ [.map [] 0]) (W.alloc (.map #[] 0)) ∧ G.le (G.withBlock H.length W.heap.size) := r.new_last RO_new_map

/-- A block that is no row of cells is written over. -/
theorem R.set_obj {G : Gh} {H : List AObj} {W : World} (r : R G H W) {k b : Nat} {o o' : AObj} {ob ob' : Obj} (hk : H[k]? = some o) (hd : o ≠ .dead) (ho : ∀ j, G.own b j = some (k, j)) (hb : W.heap[b]? = some ob) (hro : ∀ W', W'.heap[b]? = some ob' → RO G W' k o') :
    R G (H.set k o') { W with heap := W.heap.setIfInBounds b ob' } := by
  obtain ⟨hset, hoth⟩ := MapKept.heap_set (o' := ob') hb
  have hb0 := r.ownB (ho 0)
  refine r.upd (.refl G) (R.lt_of hk) (r.not_fixed (by rw [hk]; simpa using hd)) ?_ r.apart ?_ r.sep r.dom r.domg ?_ (hro _ hset) ?_ (fun _ _ _ _ h => h)
  · intro c i v h
    have hne : c ≠ b := by
      rintro rfl
      have := r.apart c i (by rw [h]; simp)
      rw [ho i] at this; cases this
    exact (World.cell?_of_block (w := W) (a := ⟨c, i, none⟩) (hoth c hne)).trans (r.imm c i v h)
  · intro c i p h; simpa using r.ownB h
  · exact ⟨rfl, rfl, rfl, by simp, fun q hq => hoth q (by rintro rfl; exact hb0.1 hq)⟩
  · intro q c i j hq h
    exact ⟨h, hoth c (r.ne_block h (ho 0) hq)⟩

/-- A map written. -/
theorem R.set_map {G : Gh} {H : List AObj} {W : World} (r : R G H W) {k b : Nat} {es es' : List (Nat × AV × AV)} {ms ms' : Array MapEntry} {c c0 c' : Nat} (hk : H[k]? = some (.map es c0)) (hp : G.place k = some (b, 0)) (hb : W.heap[b]? = some (.map ms c)) (he : entriesOK G es' ms'.toList) :
    R G (H.set k (.map es' c')) { W with heap := W.heap.setIfInBounds b (.map ms' c') } := by
  obtain ⟨b', ms0, hp', ho, _, _⟩ := r.obj k _ hk
  rw [hp] at hp'
  simp only [Option.some.injEq, Prod.mk.injEq, and_true] at hp'
  subst hp'
  exact r.set_obj hk (by simp) ho hb fun W' h => ⟨b, ms', hp, ho, h, he⟩

theorem entriesOK.length {G : Gh} : ∀ {es : List (Nat × AV × AV)} {ms : List MapEntry}, entriesOK G es ms → es.length = ms.length
  | [], [], _ => rfl
  | _ :: _, _ :: _, ⟨_, _, _, h⟩ => by simp [entriesOK.length h]
  | [], _ :: _, h => h.elim
  | _ :: _, [], h => h.elim
def setAt (k v : AV) : List (Nat × AV × AV) → Nat → List (Nat × AV × AV)
  | [], _ => []
  | (b, _, _) :: es, 0 => (b, k, v) :: es
  | e :: es, i + 1 => e :: setAt k v es i
theorem entriesOK.set {G : Gh} {k v : AV} {kv vv : Value} (hk : Rv G k kv) (hv : Rv G v vv) : ∀ {es : List (Nat × AV × AV)} {ms : List MapEntry} (i : Nat), entriesOK G es ms → entriesOK G (setAt k v es i) (ms.modify i fun e => { e with key := kv, val := vv })
  | [], [], i, _ => by cases i <;> exact trivial
  | (_, _, _) :: _, m :: _, 0, ⟨h0, _, _, h⟩ => ⟨h0, hk, hv, h⟩
  | (_, _, _) :: _, m :: _, i + 1, ⟨h0, h1, h2, h⟩ => ⟨h0, h1, h2, entriesOK.set hk hv i h⟩
  | [], _ :: _, _, h => h.elim
  | _ :: _, [], _, h => h.elim
theorem entriesOK.push {G : Gh} {k v : AV} {m : MapEntry} (hk : Rv G k m.key) (hv : Rv G v m.val) : ∀ {es : List (Nat × AV × AV)} {ms : List MapEntry}, entriesOK G es ms → entriesOK G (es ++ [(m.born, k, v)]) (ms ++ [m])
  | [], [], _ => ⟨rfl, hk, hv, trivial⟩
  | (_, _, _) :: _, _ :: _, ⟨h0, h1, h2, h⟩ => ⟨h0, h1, h2, entriesOK.push hk hv h⟩
  | [], _ :: _, h => h.elim
  | _ :: _, [], h => h.elim

section
variable {P : Program} {Q : APost} {s : ASt} {N : ASt → Prop} {o : Oper}

theorem op_makemap {t : TypeId} (ho : o.op = .makeMap t none) (hd : dstOK o.dst s.n = true) (h : N (ASt.put { s with H := s.H ++ [.map [] 0] } o.dst (.mapv s.H.length))) : AOp P o N Q s := by
  refine op_gen (s' := { s with H := s.H ++ [.map [] 0] }) rfl rfl rfl hd (fun G W a ra r => ?_) h
  obtain ⟨r', hle⟩ := r.new_map
  refine ⟨.map (some W.heap.size), _, _, ?_, .mapv place_withBlock, r', hle⟩
  unfold execOp
  simp only [ho]
  simp [Instr.makeMap]

def gotV (f : Option (Nat × Value)) (z : Value) : Value := match f with | some (_, v) => v | none => z
theorem run_lookup {t kt et : TypeId} {xv kv zv : Value} {ok : Bool} {ms : Array MapEntry} {f' : Option (Nat × Value)} {W : World} (ht : P.underlying t = some (.map kt et)) (hx : (xv = .map none ∧ ms = #[]) ∨ ∃ b c, xv = .map (some b) ∧ W.heap[b]? = some (.map ms c))
    (hck : ∀ b, (Instr.checkKey b 10000 kt kv).run P W = .ok () W) (hfk : (Instr.findKey kt kv ms.toList).run P W = .ok f' W) (hz : (zeroValue et).run P W = .ok zv W) :
    (Instr.lookup t xv kv ok).run P W = .ok (if ok then .tuple #[gotV f' zv, .bool f'.isSome] else gotV f' zv) W := by
  rcases hx with ⟨rfl, rfl⟩ | ⟨b, c, rfl, hb⟩
  · cases f' <;> cases ok <;> simp [Instr.lookup, underlying, ht, hck, hfk, hz, gotV]
  · have hg := MapKept.run_getObj_map (P := P) hb
    cases f' <;> cases ok <;> simp [Instr.lookup, underlying, ht, hck, hfk, hz, hg, gotV]

def gotA (f : Option (Nat × AV)) (z : AV) : AV := match f with | some (_, v) => v | none => z

theorem op_lookup {t kt et : TypeId} {d : TypeDesc} {x y : Operand} {ok : Bool} {m c0 : Nat} {k z : AV} {es : List (Nat × AV × AV)} {f : Option (Nat × AV)} (ho : o.op = .lookup t x y ok) (hd : dstOK o.dst s.n = true) (ht : P.underlying t = some (.map kt et)) (hkt : P.underlying kt = some d) (hkd : keyD d k = true) (hz : zeroA P et = some z)
    (hx : (s.ev x = some (.mapv m) ∧ s.H[m]? = some (.map es c0)) ∨ (s.ev x = some .nilm ∧ es = [])) (hy : s.ev y = some k) (hf : findA k es 0 = some f)
    (h : N (s.put o.dst (if ok then .tuple [gotA f z, .bool f.isSome] else gotA f z))) : AOp P o N Q s :=
  op_val hd (fun G W a ra r => by
    have hky := ev_eval ra hy
    obtain ⟨zv, hz1, hz2⟩ := zeroA_run hz
    obtain ⟨ms, hms, hxv⟩ : ∃ ms : Array MapEntry, entriesOK G es ms.toList ∧ ((a.eval x = .map none ∧ ms = #[]) ∨ ∃ b c, a.eval x = .map (some b) ∧ W.heap[b]? = some (.map ms c)) := by
      rcases hx with ⟨hx, hm⟩ | ⟨hx, rfl⟩
      · obtain ⟨b, hp, he⟩ := (ev_eval ra hx).mapv_inv
        obtain ⟨b', ms, hp', _, hb, hes⟩ := r.obj m _ hm
        rw [hp] at hp'
        simp only [Option.some.injEq, Prod.mk.injEq, and_true] at hp'
        subst hp'
        exact ⟨ms, hes, .inr ⟨b, c0, he, hb⟩⟩
      · have he : a.eval x = .map none := by
          have := ev_eval ra hx
          generalize a.eval x = v at this ⊢
          cases this; rfl
        exact ⟨#[], trivial, .inl ⟨he, rfl⟩⟩
    obtain ⟨f', hf', hfr⟩ := findA_now hkd hky hms hf
    have hrun := run_lookup (P := P) (ok := ok) ht hxv (fun b => Abs.run_checkKey (P := P) hkt hkd hky b 9999 W) (Abs.run_findKey (P := P) hkt hf' W) (hz1 W)
    refine ⟨if ok then .tuple #[gotV f' zv, .bool f'.isSome] else gotV f' zv, ?_, ?_⟩
    · unfold execOp
      simp only [ho]
      rw [Sem.run_bind, hrun]; rfl
    · match f, f', hfr with
      | none, none, _ =>
        cases ok with
        | true => exact .tuple (vs := [zv, .bool false]) (.cons (hz2 G) (.cons (.bool _) .nil))
        | false => exact hz2 G
      | some (j, v), some (j', v'), ⟨_, _, _, hv⟩ =>
        cases ok with
        | true => exact .tuple (vs := [v', .bool true]) (.cons hv (.cons (.bool _) .nil))
        | false => exact hv) h

def setA (es : List (Nat × AV × AV)) (c : Nat) (f : Option (Nat × AV)) (k v : AV) : List (Nat × AV × AV) := match f with | some (i, _) => setAt k v es i | none => es ++ [(c, k, v)]
def tick (c : Nat) (f : Option (Nat × AV)) : Nat := match f with | some _ => c | none => c + 1
/-- A map's entry laid, or written over. -/
theorem op_mapset {t kt et : TypeId} {d : TypeDesc} {x y w : Operand} {m c0 : Nat} {k v : AV} {es es' : List (Nat × AV × AV)} {f : Option (Nat × AV)} (ho : o.op = .mapUpdate t x y w ∨ o.op = .insert t x y w) (hd : o.dst = none) (ht : P.underlying t = some (.map kt et)) (hkt : P.underlying kt = some d) (hkd : keyD d k = true)
    (hx : s.ev x = some (.mapv m)) (hm : s.H[m]? = some (.map es c0)) (hy : s.ev y = some k) (hw : s.ev w = some v) (hf : findA k es 0 = some f) (he' : setA es c0 f k v = es') (h : N { s with H := s.H.set m (.map es' (tick c0 f)) }) : AOp P o N Q s := by
  refine op_gen0 (s' := { s with H := s.H.set m (.map es' (tick c0 f)) }) rfl rfl rfl hd (fun G W a ra r => ?_) h
  have hky := ev_eval ra hy
  have hwv := ev_eval ra hw
  obtain ⟨b, hp, he⟩ := (ev_eval ra hx).mapv_inv
  obtain ⟨b', ms, hp', _, hb, hes⟩ := r.obj m _ hm
  rw [hp] at hp'
  simp only [Option.some.injEq, Prod.mk.injEq, and_true] at hp'
  subst hp'
  obtain ⟨f', hf', hfr⟩ := findA_now hkd hky hes hf
  have hck := Abs.run_checkKey (P := P) hkt hkd hky false 9999 W
  have hfk := Abs.run_findKey (P := P) hkt hf' W
  have hg := MapKept.run_getObj_map (P := P) hb
  have hexec : ∀ W', (Instr.mapUpdate t (a.eval x) (a.eval y) (a.eval w)).run P W = .ok () W' → (execOp a.eval o).run P W = .ok .skip W' := by
    intro W' hr
    unfold execOp
    rcases ho with ho | ho <;> simp only [ho] <;> rw [Sem.run_bind, hr] <;> rfl
  match f, f', hfr with
  | none, none, _ =>
    refine ⟨G, { W with heap := W.heap.setIfInBounds b (.map (ms.push { key := a.eval y, val := a.eval w, born := c0 }) (c0 + 1)) }, hexec _ ?_, ?_, .refl G⟩
    · simp [Instr.mapUpdate, underlying, ht, he, hg, hck, hfk, MapKept.run_setObj_map (P := P) _ hb]
    · subst he'
      exact r.set_map hm hp hb (by simpa [setA] using hes.push (m := { key := a.eval y, val := a.eval w, born := c0 }) hky hwv)
  | some (j, v0), some (j', v'), ⟨hjj, _, ⟨me, hme, hkeq, _⟩, _⟩ =>
    subst hjj
    have hst : (Instr.keyThatStays (((ms[j]?).map (·.key)).getD (a.eval y)) (a.eval y)).run P W = .ok (a.eval y) W := by
      have e : ((ms[j]?).map (·.key)).getD (a.eval y) = a.eval y := by
        have : ms[j]? = some me := by simpa using hme
        rw [this]; exact hkeq
      rw [e]; exact run_stays hkd hky W
    refine ⟨G, { W with heap := W.heap.setIfInBounds b (.map (ms.modify j fun e => { e with key := a.eval y, val := a.eval w }) c0) }, hexec _ ?_, ?_, .refl G⟩
    · simp [Instr.mapUpdate, underlying, ht, he, hg, hck, hfk, hst, MapKept.run_setObj_map (P := P) _ hb]
    · subst he'
      exact r.set_map hm hp hb (by simpa [setA] using hes.set hky hwv j)

theorem op_len_map {t kt et : TypeId} {x : Operand} {m c0 : Nat} {es : List (Nat × AV × AV)} (ho : o.op = .call { callee := .builtin .len, args := #[x], argTypes := #[t] }) (hd : dstOK o.dst s.n = true) (ht : P.underlying t = some (.map kt et)) (hx : (s.ev x = some (.mapv m) ∧ s.H[m]? = some (.map es c0)) ∨ (s.ev x = some .nilm ∧ es = [])) (h : N (s.put o.dst (.int .i64 es.length))) : AOp P o N Q s :=
  op_val hd (fun G W a ra r => ⟨.int .i64 es.length, by
    rcases hx with ⟨hx, hm⟩ | ⟨hx, rfl⟩
    · obtain ⟨b, hp, he⟩ := (ev_eval ra hx).mapv_inv
      obtain ⟨b', ms, hp', _, hb, hes⟩ := r.obj m _ hm
      rw [hp] at hp'
      simp only [Option.some.injEq, Prod.mk.injEq, and_true] at hp'
      subst hp'
      have hl := hes.length
      have hg := MapKept.run_getObj_map (P := P) hb
      unfold execOp
      simp only [ho]
      simp [resolve, invoke, builtin, Builtin.len_, underlying, ht, he, hg, goInt, hl]
    · have he : a.eval x = .map none := by
        have := ev_eval ra hx
        generalize a.eval x = v at this ⊢
        cases this; rfl
      unfold execOp
      simp only [ho]
      simp [resolve, invoke, builtin, Builtin.len_, underlying, ht, he, goInt], .int _ _⟩) h

theorem entriesOK.erase {G : Gh} : ∀ {es : List (Nat × AV × AV)} {ms : List MapEntry} (i : Nat), entriesOK G es ms → entriesOK G (es.eraseIdx i) (ms.eraseIdx i)
  | [], [], _, _ => trivial
  | (_, _, _) :: _, _ :: _, 0, ⟨_, _, _, h⟩ => h
  | (_, _, _) :: _, _ :: _, i + 1, ⟨h0, h1, h2, h⟩ => ⟨h0, h1, h2, entriesOK.erase i h⟩
  | [], _ :: _, _, h => h.elim
  | _ :: _, [], _, h => h.elim
def delA (es : List (Nat × AV × AV)) (f : Option (Nat × AV)) : List (Nat × AV × AV) := match f with | some (i, _) => es.eraseIdx i | none => es
theorem op_delete {t t2 kt et : TypeId} {d : TypeDesc} {x y : Operand} {m c0 : Nat} {k : AV} {es es' : List (Nat × AV × AV)} {f : Option (Nat × AV)} (ho : o.op = .call { callee := .builtin .delete, args := #[x, y], argTypes := #[t, t2] }) (hd : dstOK o.dst s.n = true) (ht : P.underlying t = some (.map kt et)) (hkt : P.underlying kt = some d) (hkd : keyD d k = true)
    (hx : s.ev x = some (.mapv m)) (hm : s.H[m]? = some (.map es c0)) (hy : s.ev y = some k) (hf : findA k es 0 = some f) (he' : delA es f = es') (h : N (ASt.put { s with H := s.H.set m (.map es' c0) } o.dst (.tuple []))) : AOp P o N Q s := by
  refine op_gen (s' := { s with H := s.H.set m (.map es' c0) }) rfl rfl rfl hd (fun G W a ra r => ?_) h
  have hky := ev_eval ra hy
  obtain ⟨b, hp, he⟩ := (ev_eval ra hx).mapv_inv
  obtain ⟨b', ms, hp', _, hb, hes⟩ := r.obj m _ hm
  rw [hp] at hp'
  simp only [Option.some.injEq, Prod.mk.injEq, and_true] at hp'
  subst hp'
  obtain ⟨f', hf', hfr⟩ := findA_now hkd hky hes hf
  have hck : ∀ b, (Instr.checkKey b 10000 kt (a.eval y)).run P W = .ok () W := fun b => Abs.run_checkKey (P := P) hkt hkd hky b 9999 W
  have hfk := Abs.run_findKey (P := P) hkt hf' W
  have hg := MapKept.run_getObj_map (P := P) hb
  match f, f', hfr with
  | none, none, _ =>
    refine ⟨.tuple #[], G, { W with heap := W.heap.setIfInBounds b (.map ms c0) }, ?_, .tuple (vs := []) .nil, ?_, .refl G⟩
    · unfold execOp
      simp only [ho]
      simp [resolve, invoke, builtin, Builtin.delete_, underlying, ht, he, hg, hck, hfk, MapKept.run_setObj_map (P := P) _ hb]
    · subst he'
      exact r.set_map hm hp hb (by simpa [delA] using hes)
  | some (j, v0), some (j', v'), ⟨hjj, _, _, _⟩ =>
    subst hjj
    refine ⟨.tuple #[], G, { W with heap := W.heap.setIfInBounds b (.map (ms.eraseIdxIfInBounds j) c0) }, ?_, .tuple (vs := []) .nil, ?_, .refl G⟩
    · unfold execOp
      simp only [ho]
      simp [resolve, invoke, builtin, Builtin.delete_, underlying, ht, he, hg, hck, hfk, MapKept.run_setObj_map (P := P) _ hb]
    · subst he'
      exact r.set_map hm hp hb (by simpa [delA] using hes.erase j)
end
end Go.Abs
