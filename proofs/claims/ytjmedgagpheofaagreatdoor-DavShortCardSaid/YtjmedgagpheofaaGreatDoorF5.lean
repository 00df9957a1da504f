/- The abstract layer: append; literals of slices; bytes and strings; parts of slices. -/
import Derived.Test.YtjmedgagpheofaaGreatDoorF4
import Derived.Laws.IdiomStrings
set_option linter.unusedSectionVars false
set_option linter.unusedVariables false
set_option linter.unusedSimpArgs false
set_option linter.constructorNameAsVariable false
namespace Go.Abs
open Go.RowKit
variable [Tabs]

/-- What is known of an element's type. -/
def elI (P : Program) (e : TypeId) (k bytes : Nat) : Bool :=
  match P.info? e with
  | some i => i.size == k && i.bytes == bytes && (match i.zero with | some z => z.cells.size == k | none => false)
  | none => false
theorem elI_info {P : Program} {e : TypeId} {k bytes : Nat} (h : elI P e k bytes = true) : ∃ i z, P.info? e = some i ∧ i.size = k ∧ i.bytes = bytes ∧ i.zero = some z ∧ z.cells.size = k := by
  unfold elI at h
  split at h
  · rename_i i hi
    simp only [Bool.and_eq_true, beq_iff_eq] at h
    obtain ⟨⟨h1, h2⟩, h3⟩ := h
    split at h3
    · rename_i z hz
      exact ⟨i, z, hi, h1, h2, hz, by simpa using h3⟩
    · simp at h3
  · simp at h

/-- What an append takes. -/
inductive SrcOf : AV → List AV → Prop
  | lst (ys : List AV) (tk : Option Nat) : SrcOf (.lst ys tk) ys
  | nils : SrcOf .nils []
  | str (l : Str) : SrcOf (.str l) (l.map fun c => .int .u8 c.toNat)

theorem rel_bytes (G : Gh) : ∀ l : Str, RvL G ((l.map fun c => AV.int .u8 c.toNat).flatMap AV.cells) (l.map fun c => Value.int .u8 c.toNat)
  | [] => .nil
  | c :: l => .cons (.int _ _) (rel_bytes G l)

theorem src_rel {P : Program} {G : Gh} {H : List AObj} {W : World} (r : R G H W) {tx e' : TypeId} {k : Nat} {a : AV} {ys : List AV} {x : Value} (hs : SrcOf a ys) (ha : Rv G a x) (hk : P.underlying tx = some (.slice e') ∨ (P.underlying tx = some .string ∧ k = 1))
    (hlen : ∀ y ∈ ys, y.cells.length = k) (h1 : (ys.flatMap AV.cells).all AV.one = true) (hstr : ∀ l, a = .str l → P.underlying tx = some .string ∧ k = 1) (hnstr : (∀ l, a ≠ .str l) → P.underlying tx = some (.slice e')) :
    ∃ news, Src P k tx x ys.length news W ∧ RvL G (ys.flatMap AV.cells) news := by
  cases hs with
  | lst ys tk =>
    have hsl := hnstr (by simp)
    cases ha with
    | lnil => exact ⟨[], Src.ofNil W hsl 0, .nil⟩
    | @lst k' _ _ vs b o cap hl hk' hc _ _ =>
      refine ⟨vs, Src.ofSlice W hsl ⟨b, o, none⟩ ys.length cap vs ?_ (fun j u hu => by rw [add_eq]; exact r.imm _ _ _ (hc j u hu)) (hl.oneCell h1), hl⟩
      rw [← hl.length, flat_length hlen]
  | nils =>
    cases ha
    exact ⟨[], Src.ofNil W (hnstr (by simp)) 0, .nil⟩
  | str l =>
    cases ha
    obtain ⟨h2, rfl⟩ := hstr l rfl
    refine ⟨l.map fun c => Value.int .u8 c.toNat, ?_, rel_bytes G l⟩
    have := Src.ofString (P := P) W h2 (mkS l)
    have e : byteCells (mkS l) = l.map fun c => Value.int .u8 c.toNat := by simp [byteCells, mkS]
    rw [e, mkS_size] at this
    simpa using this

/-- The ghost state behind an append into a row's own room. -/
def Gh.fill (G : Gh) (b lo : Nat) (news : List Value) (g n cap : Nat) : Gh :=
  { G with
    imm := fun c i => if c = b ∧ lo ≤ i ∧ i < lo + news.length then news[i - lo]? else G.imm c i
    own := fun c i => if c = b ∧ lo ≤ i ∧ i < lo + news.length then none else G.own c i
    gen := fun a m => if a = g ∧ m = n then some (b, cap) else G.gen a m }
/-- .. behind one that lays a new row. -/
def Gh.row (G : Gh) (b : Nat) (vs : List Value) (g n cap : Nat) : Gh :=
  { G with
    imm := fun c i => if c = b then vs[i]? else G.imm c i
    own := fun c i => if c = b ∧ vs.length ≤ i then some (g, i) else G.own c i
    gen := fun a m => if a = g ∧ m = n then some (b, cap) else G.gen a m }

section
variable {G : Gh} {H : List AObj} {W : World}

theorem Gh.row_le (r : R G H W) {vs : List Value} {g n cap : Nat} (hg : G.gen g n = none) (hgf : ¬ G.fixed g) : G.le (G.row W.heap.size vs g n cap) :=
  ⟨⟨fun _ _ h => h, fun c i v hv => by simp only [Gh.row]; rw [if_neg (by rintro rfl; rw [r.imm_none (Nat.le_refl _)] at hv; cases hv)]; exact hv,
   fun a m p hp => by simp only [Gh.row]; rw [if_neg (by rintro ⟨rfl, rfl⟩; rw [hg] at hp; cases hp)]; exact hp⟩, rfl, rfl, rfl, fun c i v hv => by
    simp only [Gh.row] at hv
    split at hv
    · rename_i e; subst e; exact .inr (r.not_kept (Nat.le_refl _))
    · exact .inl hv, fun a m p hp => by
    simp only [Gh.row] at hp
    split at hp
    · rename_i e; rw [e.1]; exact .inr hgf
    · exact .inl hp, fun _ _ h => .inl h⟩

/-- A new row: told at place g (an old token, or the next number). -/
theorem R.new_row (r : R G H W) {W' : World} (hgr : Grow W W') {vs : List Value} {k n cap g : Nat} {t : TypeId} {c : Array Value} {H' : List AObj} (hH : ∀ q, q ≠ g → H'[q]? = H[q]? ) (hHg : H'[g]? = some (.tok t k n)) (hlen : H.length ≤ H'.length) (hvs : vs.length = n * k) (hcap : n ≤ cap)
    (hg : ∀ m p, G.gen g m = some p → m < n) (hgf : ¬ G.fixed g) (hb : W'.heap[W.heap.size]? = some (.cells c t (0, 0))) (hc : c.size = cap * k) (hcv : ∀ (j : Nat) (v : Value), vs[j]? = some v → c[j]? = some v) :
    R (G.row W.heap.size vs g n cap) H' W' := by
  have hgn : G.gen g n = none := by
    cases h : G.gen g n with
    | none => rfl
    | some p => exact absurd (hg n p h) (Nat.lt_irrefl _)
  have hle := Gh.row_le (r := r) (vs := vs) (cap := cap) hgn hgf
  have hgl : g < H'.length := R.lt_of hHg
  have hsize : W.heap.size < W'.heap.size := by
    rcases Nat.lt_or_ge W.heap.size W'.heap.size with h | h
    · exact h
    · rw [Array.getElem?_eq_none h] at hb; cases hb
  have hown : ∀ b i p, G.own b i = some p → (G.row W.heap.size vs g n cap).own b i = some p := by
    intro b i p h
    have := (r.ownB h).2
    simp only [Gh.row]
    rw [if_neg (by omega)]; exact h
  refine ⟨?_, ?_, ?_, ?_, ?_, ?_, hgr.keep r.below r.kept_lt, r.base, fun q hq => ?_, ?_, r.tab⟩
  · intro b i v h
    simp only [Gh.row] at h
    split at h
    · rename_i e; subst e; simp only [World.cell?, hb]; exact hcv i v h
    · exact (hgr.cell (a := ⟨b, i, none⟩) (r.immB h)).trans (r.imm b i v h)
  · intro b i h
    simp only [Gh.row] at h ⊢
    by_cases e : b = W.heap.size
    · subst e
      simp only [if_true] at h
      have hi : i < vs.length := by
        rcases Nat.lt_or_ge i vs.length with h' | h'
        · exact h'
        · exact absurd (List.getElem?_eq_none h') h
      rw [if_neg (by omega)]
      exact r.own_none (Nat.le_refl _) i
    · rw [if_neg e] at h
      rw [if_neg (by omega)]
      exact r.apart b i h
  · intro b i h
    simp only [Gh.row] at h
    split at h
    · rename_i e; rw [e.1]; exact ⟨r.not_kept (Nat.le_refl _), hsize⟩
    · exact ⟨(r.own b i h).1, Nat.lt_of_lt_of_le (r.own b i h).2 hgr.size⟩
  · intro c i i' p p' h h'
    simp only [Gh.row] at h h'
    by_cases e : c = W.heap.size
    · subst e
      rw [r.own_none (Nat.le_refl _)] at h h'
      split at h <;> split at h' <;> simp only [Option.some.injEq, reduceCtorEq] at h h'
      rw [← h, ← h']
    · rw [if_neg (fun x => e x.1)] at h h'
      exact r.sep c i i' p p' h h'
  · intro q p h; exact Nat.lt_of_lt_of_le (r.dom q p h) hlen
  · intro a m p h
    simp only [Gh.row] at h
    split at h
    · rename_i e; rw [e.1]; exact hgl
    · exact Nat.lt_of_lt_of_le (r.domg a m p h) hlen
  · rw [hH q (fun e => hgf (e ▸ hq))]; exact r.fixed q hq
  · intro q ob h
    by_cases e : q = g
    · subst e
      rw [hHg] at h; simp only [Option.some.injEq] at h; subst h
      refine ⟨W.heap.size, cap, c, (0, 0), by simp [Gh.row], hcap, ?_, ?_, hb, hc, .inl rfl⟩
      · intro m p hm
        simp only [Gh.row] at hm
        split at hm
        · rename_i e; rw [e.2]; exact Nat.le_refl _
        · exact Nat.le_of_lt (hg m p hm)
      · intro j h0
        simp only [Gh.row]
        rw [if_pos ⟨trivial, by omega⟩]
    · rw [hH q e] at h
      refine ((r.obj q ob h).grow hgr (fun b i hi => (r.own b i hi).2)).mono hle hown (fun m => ?_)
      simp only [Gh.row]
      rw [if_neg (by rintro ⟨rfl, _⟩; exact e rfl)]

theorem size_setCells (b : Nat) : ∀ (vs : List Value) (o : Nat) (w : World), (w.setCells b o vs).heap.size = w.heap.size
  | [], _, _ => rfl
  | v :: vs, o, w => by simp only [World.setCells]; rw [size_setCells b vs]; simp
theorem heap_setCells (b c : Nat) (h : c ≠ b) : ∀ (vs : List Value) (o : Nat) (w : World), (w.setCells b o vs).heap[c]? = w.heap[c]?
  | [], _, _ => rfl
  | v :: vs, o, w => by simp only [World.setCells]; rw [heap_setCells b c h vs, Below.heap_setCell _ _ _ _ h]
theorem keep_setCells {K : Nat → Prop} {w0 : World} (b : Nat) (hb : ¬ K b) (vs : List Value) (o : Nat) (w : World) (h : Keep K w0 w) (hs : (w.setCells b o vs).os = w.os ∧ (w.setCells b o vs).tape = w.tape ∧ (w.setCells b o vs).output = w.output) : Keep K w0 (w.setCells b o vs) :=
  ⟨hs.1.trans h.os, hs.2.1.trans h.tape, hs.2.2.trans h.output, by rw [size_setCells]; exact h.size, fun q hq => by
    rw [heap_setCells b q (by rintro rfl; exact hb hq)]; exact h.block q hq⟩
theorem still_setCells (b : Nat) : ∀ (vs : List Value) (o : Nat) (w : World), (w.setCells b o vs).os = w.os ∧ (w.setCells b o vs).tape = w.tape ∧ (w.setCells b o vs).output = w.output
  | [], _, _ => ⟨rfl, rfl, rfl⟩
  | v :: vs, o, w => by
    simp only [World.setCells]
    obtain ⟨h1, h2, h3⟩ := still_setCells b vs (o + 1) (w.setCell ⟨b, o, none⟩ v)
    exact ⟨h1, h2, h3⟩

theorem heap_setCells_self (b : Nat) : ∀ (vs : List Value) (o : Nat) (w : World) {c : Array Value} {t : TypeId} {f : Nat × Nat}, w.heap[b]? = some (.cells c t f) → ∃ c', (w.setCells b o vs).heap[b]? = some (.cells c' t f) ∧ c'.size = c.size
  | [], _, _, c, _, _, h => ⟨c, h, rfl⟩
  | v :: vs, o, w, c, t, f, h => by
    simp only [World.setCells]
    obtain ⟨c', h1, h2⟩ := heap_setCells_self b vs (o + 1) (w.setCell ⟨b, o, none⟩ v) (heap_setCell_self (i := o) (v := v) h)
    exact ⟨c', h1, by simpa using h2⟩
theorem frozen_tail {W : World} {b n j : Nat} {c : Array Value} {t : TypeId} {f : Nat × Nat} (hb : W.heap[b]? = some (.cells c t f)) (hf : frzOK f n) (hj : n ≤ j) : W.frozen? ⟨b, j, none⟩ = false := by
  obtain ⟨lo, hi⟩ := f
  simp only [World.frozen?, hb]
  rcases hf with h | h <;> simp only at h <;> simp <;> omega

/-- An append into a row's own room. -/
theorem R.fill_row (r : R G H W) {news : List Value} {b k n m cap g : Nat} {t : TypeId} (hk0 : 0 < k) (hH : H[g]? = some (.tok t k n)) (hp : G.gen g n = some (b, cap)) (hnews : news.length = m * k) (hm : 0 < m) (hroom : n + m ≤ cap) :
    (∀ j, j < news.length → (W.cell? ⟨b, 0 + n * k + j, none⟩).isSome = true ∧ W.frozen? ⟨b, 0 + n * k + j, none⟩ = false) ∧
    G.le (G.fill b (n * k) news g (n + m) cap) ∧ R (G.fill b (n * k) news g (n + m) cap) (H.set g (.tok t k (n + m))) (W.setCells b (0 + n * k) news) := by
  obtain ⟨b', cap', c, f, hp', hcap, hmax, hown, hb, hsz, hfz⟩ := r.obj g _ hH
  rw [hp] at hp'; simp only [Option.some.injEq, Prod.mk.injEq] at hp'
  obtain ⟨rfl, rfl⟩ := hp'
  rw [Nat.zero_add]
  have hle1 : (n + m) * k ≤ cap * k := Nat.mul_le_mul_right k hroom
  have hsum : n * k + news.length = (n + m) * k := by rw [hnews, Nat.add_mul]
  have hpos : 0 < news.length := by rw [hnews]; exact Nat.mul_pos hm hk0
  have hsome : ∀ j, j < news.length → (W.cell? ⟨b, n * k + j, none⟩).isSome = true := fun j hj => by
    have : n * k + j < c.size := by omega
    simp [World.cell?, hb, this]
  have hgl : g < H.length := R.lt_of hH
  have hgf : ¬ G.fixed g := r.not_fixed (by rw [hH]; simp)
  have hb0 := r.ownB (hown (n * k) (Nat.le_refl _))
  have hle : G.le (G.fill b (n * k) news g (n + m) cap) := by
    refine ⟨⟨fun _ _ h => h, fun c i v hv => ?_, fun a q p hp => ?_⟩, rfl, rfl, rfl, fun c i v hv => ?_, fun a q p hp => ?_, fun _ _ h => .inl h⟩
    · simp only [Gh.fill]
      rw [if_neg ?_]; · exact hv
      rintro ⟨rfl, h1, h2⟩
      have := r.apart c i (by rw [hv]; simp)
      rw [hown i h1] at this; cases this
    · simp only [Gh.fill]
      rw [if_neg ?_]; · exact hp
      rintro ⟨rfl, rfl⟩
      have := hmax _ _ hp; omega
    · simp only [Gh.fill] at hv
      split at hv
      · rename_i e; rw [e.1]; exact .inr hb0.1
      · exact .inl hv
    · simp only [Gh.fill] at hp
      split at hp
      · rename_i e; rw [e.1]; exact .inr hgf
      · exact .inl hp
  have hout : ∀ c j, ¬ (c = b ∧ n * k ≤ j ∧ j < n * k + news.length) → (W.setCells b (n * k) news).cell? ⟨c, j, none⟩ = W.cell? ⟨c, j, none⟩ := by
    intro c j h
    refine World.cell?_setCells_out b news (n * k) W _ (fun e _ => ?_)
    simp only at e ⊢
    omega
  obtain ⟨c', hb', hsz'⟩ := heap_setCells_self b news (n * k) W hb
  refine ⟨fun j hj => ⟨hsome j hj, frozen_tail hb hfz (by omega)⟩, hle, r.upd hle hgl hgf ?_ ?_ ?_ ?_ ?_ ?_ ?_ ?_ ?_ ?_⟩
  · intro c i v h
    simp only [Gh.fill] at h
    split at h
    · rename_i e
      obtain ⟨rfl, h1, h2⟩ := e
      have hj : i - n * k < news.length := by omega
      rw [List.getElem?_eq_getElem hj] at h
      simp only [Option.some.injEq] at h
      have := World.cell?_setCells_in c news (n * k) W hsome (i - n * k) hj
      rw [show n * k + (i - n * k) = i by omega] at this
      rw [this, h]
    · rename_i e
      rw [hout c i e]; exact r.imm c i v h
  · intro c i h
    simp only [Gh.fill] at h ⊢
    split
    · rfl
    · rename_i e; rw [if_neg e] at h; exact r.apart c i h
  · intro c i p h
    simp only [Gh.fill] at h
    split at h
    · cases h
    · rw [size_setCells]; exact r.ownB h
  · intro c i i' p p' h h'
    simp only [Gh.fill] at h h'
    split at h
    · cases h
    · split at h'
      · cases h'
      · exact r.sep c i i' p p' h h'
  · exact fun q p h => r.dom q p h
  · intro a q p h
    simp only [Gh.fill] at h
    split at h
    · rename_i e; rw [e.1]; exact hgl
    · exact r.domg a q p h
  · obtain ⟨s1, s2, s3⟩ := still_setCells b news (n * k) W
    exact ⟨s1, s2, s3, by rw [size_setCells]; exact Nat.le_refl _, fun q hq => heap_setCells b q (by rintro rfl; exact hb0.1 hq) _ _ _⟩
  · refine ⟨b, cap, c', f, by simp [Gh.fill], hroom, ?_, ?_, hb', by rw [hsz', hsz], ?_⟩
    · intro a p ha
      simp only [Gh.fill] at ha
      split at ha
      · rename_i e; omega
      · have := hmax a p ha; omega
    · intro j h0
      simp only [Gh.fill]
      rw [if_neg (by omega)]
      exact hown j (by omega)
    · rcases hfz with h | h
      · exact .inl h
      · exact .inr (by omega)
  · intro q c j i hq h
    have hne := r.ne_block h (hown (n * k) (Nat.le_refl _)) hq
    refine ⟨?_, heap_setCells b c hne _ _ _⟩
    simp only [Gh.fill]
    rw [if_neg (fun e => hne e.1)]; exact h
  · intro q a p hq h
    simp only [Gh.fill] at h
    rw [if_neg (fun e => hq e.1)] at h
    exact h
end

section
variable {P : Program} {Q : APost} {s : ASt} {N : ASt → Prop} {o : Oper}

theorem Rv.lst' {G : Gh} {k n : Nat} {xs : List AV} {tok : Option Nat} {vs : List Value} {b o cap : Nat} (hn : xs.length = n) (hl : RvL G (xs.flatMap AV.cells) vs) (hk : ∀ x ∈ xs, x.cells.length = k)
    (hi : ∀ j v, vs[j]? = some v → G.imm b (o + j) = some v) (ht : tokOK G tok n b o cap) (hc : n ≤ cap) : Rv G (.lst xs tok) (.slice (some ⟨b, o, none⟩) n cap) := by
  subst hn; exact .lst hl hk hi ht hc

theorem flat_append (xs ys : List AV) : (xs ++ ys).flatMap AV.cells = xs.flatMap AV.cells ++ ys.flatMap AV.cells := by simp

theorem row_block {cs : List Value} {z : Array Value} {m : Nat} {t : TypeId} {W W1 : World} (hW1 : W1.heap.size = W.heap.size) :
    (W1.alloc (.cells (cs.toArray ++ Builtin.zeroCells z m) t)).heap[W.heap.size]? = some (.cells (cs.toArray ++ Builtin.zeroCells z m) t (0, 0)) := by
  rw [← hW1]; show (W1.heap.push _)[W1.heap.size]? = _; simp
theorem row_get {cs : List Value} {z : Array Value} {m : Nat} : ∀ (j : Nat) (v : Value), cs[j]? = some v → (cs.toArray ++ Builtin.zeroCells z m)[j]? = some v := by
  intro j v hv
  have hj : j < cs.length := by
    rcases Nat.lt_or_ge j cs.length with h | h
    · exact h
    · simp [List.getElem?_eq_none h] at hv
  rw [Array.getElem?_append_left (by simpa using hj)]
  simpa using hv

theorem append_run {t tx : TypeId} {x y : Operand} {a : Act} {W : World} (ho : o.op = .call { callee := .builtin .append, args := #[x, y], argTypes := #[t, tx] }) {v : Value} {W' : World}
    (h : (Builtin.append_ #[t, tx] o.type #[a.eval x, a.eval y]).run P W = .ok v W') : (execOp a.eval o).run P W = .ok (.value v) W' := by
  unfold execOp
  simp only [ho]
  simp [resolve, invoke, builtin, h]

/-- 'append' onto a row of one's own. -/
theorem op_append {t tx e e' : TypeId} {x y : Operand} {g k bytes : Nat} {xs ys : List AV} {src : AV} (ho : o.op = .call { callee := .builtin .append, args := #[x, y], argTypes := #[t, tx] }) (hd : dstOK o.dst s.n = true)
    (ht : P.underlying t = some (.slice e)) (he : elI P e k bytes = true) (hk0 : decide (0 < k) = true) (htx : P.underlying tx = some (.slice e') ∨ (P.underlying tx = some .string ∧ k = 1)) (hstr : ∀ l, src = .str l → P.underlying tx = some .string ∧ k = 1) (hnstr : (∀ l, src ≠ .str l) → P.underlying tx = some (.slice e'))
    (hx : s.ev x = some (.lst xs (some g))) (hy : s.ev y = some src) (hs : SrcOf src ys) (hH : s.H[g]? = some (.tok e k xs.length)) (hxl : ∀ x ∈ xs, x.cells.length = k) (hlen : ∀ y ∈ ys, y.cells.length = k) (h1 : (ys.flatMap AV.cells).all AV.one = true) (hbd : (xs.length + ys.length) * bytes ≤ 140737488355328) (hb0 : decide (0 < bytes) = true)
    (h : N (ASt.put { s with H := s.H.set g (.tok e k (xs.length + ys.length)) } o.dst (.lst (xs ++ ys) (some g)))) : AOp P o N Q s := by
  refine op_gen (s' := { s with H := s.H.set g (.tok e k (xs.length + ys.length)) }) rfl rfl rfl hd (fun G W a ra r => ?_) h
  have hk0 := of_decide_eq_true hk0
  have hb0 := of_decide_eq_true hb0
  obtain ⟨i, z, hi, hik, hib, hiz, hzk⟩ := elI_info he
  obtain ⟨news, hsrc, hnrel⟩ := src_rel (P := P) (W := W) r hs (ev_eval ra hy) htx hlen h1 hstr hnstr
  have hnl := hnrel.length
  rw [flat_length hlen] at hnl
  have hgl : g < s.H.length := by
    rcases Nat.lt_or_ge g s.H.length with h | h
    · exact h
    · simp [List.getElem?_eq_none h] at hH
  have hrel := ev_eval ra hx
  generalize hev : a.eval x = vx at hrel
  cases hrel with
  | @lst k' _ _ vs b o' cap hl hk' hc htok hcap =>
    obtain ⟨rfl, hgen⟩ := htok
    have hvl : vs.length = xs.length * k := by rw [← hl.length, flat_length hxl]
    have hall : ∀ x ∈ xs ++ ys, x.cells.length = k := by
      intro x hx
      rcases List.mem_append.1 hx with h | h
      · exact hxl x h
      · exact hlen x h
    have hlen' : (xs ++ ys).length = xs.length + ys.length := List.length_append
    by_cases hroom : xs.length + ys.length ≤ cap
    · by_cases hm : 0 < ys.length
      · obtain ⟨hcells, hle, r'⟩ := r.fill_row hk0 hH hgen hnl.symm hm hroom
        subst hik
        have hrun := run_append_room_src (P := P) W t tx o.type e i ht hi b 0 xs.length cap (a.eval y) ys.length news hsrc hroom (fun j hj => (hcells j hj).1) (fun j hj => (hcells j hj).2)
        rw [← hev] at hrun
        refine ⟨_, _, _, append_run ho hrun, ?_, r', hle⟩
        refine Rv.lst' (k := i.size) (vs := vs ++ news) hlen' ?_ hall ?_ ?_ hroom
        · rw [flat_append]; exact (hl.mono hle).append (hnrel.mono hle)
        · intro j v hv
          by_cases hj : j < vs.length
          · rw [List.getElem?_append_left hj] at hv
            exact hle.imm _ _ _ (hc j v hv)
          · rw [List.getElem?_append_right (by omega)] at hv
            have hjn : j - vs.length < news.length := by
              rcases Nat.lt_or_ge (j - vs.length) news.length with h | h
              · exact h
              · simp [List.getElem?_eq_none h] at hv
            simp only [Gh.fill, Nat.zero_add]
            rw [if_pos ⟨trivial, by omega, by omega⟩, ← hvl]
            exact hv
        · exact ⟨rfl, by simp [Gh.fill]⟩
      · have hy0 : ys = [] := List.eq_nil_of_length_eq_zero (by omega)
        subst hy0
        have hn0 : news = [] := List.eq_nil_of_length_eq_zero (by simp at hnl; omega)
        subst hn0
        subst hik
        have hrun := run_append_room_src (P := P) W t tx o.type e i ht hi b 0 xs.length cap (a.eval y) 0 [] hsrc hroom (by simp) (by simp)
        rw [← hev] at hrun
        refine ⟨_, G, _, append_run ho hrun, ?_, ?_, .refl G⟩
        · simp only [List.append_nil]
          exact .lst hl hk' hc ⟨rfl, hgen⟩ hcap
        · have : s.H.set g (.tok e i.size (xs.length + ([] : List AV).length)) = s.H := by
            apply List.ext_getElem?
            intro j
            by_cases e : j = g
            · subst e; rw [List.getElem?_set_self hgl, hH]; simp
            · rw [List.getElem?_set_ne (Ne.symm e)]
          rw [this]; simpa [World.setCells] using r
    · have hm : 0 < ys.length := by omega
      obtain ⟨b', cap', _, _, g0, g1, gm, _⟩ := r.obj g _ hH
      have h63 : ((xs.length + ys.length : Nat) : Int) ≤ 9223372036854775807 := by
        have := Nat.le_mul_of_pos_right (xs.length + ys.length) hb0
        omega
      have hold : (Builtin.firstCells i.size xs.length (.slice (some ⟨b, 0, none⟩) xs.length cap)).run P W.drew = .ok vs.toArray W.drew :=
        run_firstCells_some W.drew i.size xs.length ⟨b, 0, none⟩ xs.length cap vs (by rw [hik]; exact hvl) (fun j v hv => by rw [add_eq]; simpa using r.imm _ _ _ (hc j v hv))
      subst hik
      have hrun := run_append_grow_src (P := P) W t tx o.type e i z ht hi hiz (some ⟨b, 0, none⟩) xs.length cap vs hold (a.eval y) ys.length news hsrc (by omega) h63 (growslice_fits (by omega) (by rw [hib]; exact hbd))
      rw [← hev] at hrun
      have hcapge := grownCap_ge W (xs.length + ys.length) cap e
      have hblk := row_block (cs := vs ++ news) (z := z.cells) (m := grownCap W (xs.length + ys.length) cap e - (xs.length + ys.length)) (t := e) (W := W) (W1 := W.drew) rfl
      have hvn : (vs ++ news).length = (xs.length + ys.length) * i.size := by rw [List.length_append, hvl, ← hnl, Nat.add_mul]
      have r' := r.new_row (g := g) (H' := s.H.set g (.tok e i.size (xs.length + ys.length))) ((Grow.drew W).trans (Grow.alloc W.drew _)) (fun q hq => List.getElem?_set_ne (Ne.symm hq)) (List.getElem?_set_self hgl) (by simp) hvn hcapge (fun m p hp => by have := gm m p hp; omega) (r.not_fixed (by rw [hH]; simp)) hblk
        (by simp only [Array.size_append, List.size_toArray, size_zeroCells, hvn, hzk]; rw [← Nat.add_mul, show xs.length + ys.length + (grownCap W (xs.length + ys.length) cap e - (xs.length + ys.length)) = grownCap W (xs.length + ys.length) cap e by omega]) row_get
      have hgn : G.gen g (xs.length + ys.length) = none := by
        cases h : G.gen g (xs.length + ys.length) with
        | none => rfl
        | some p => have := gm _ p h; omega
      have hle := Gh.row_le (r := r) (vs := vs ++ news) (cap := grownCap W (xs.length + ys.length) cap e) hgn (r.not_fixed (by rw [hH]; simp))
      refine ⟨_, _, _, append_run ho hrun, ?_, r', hle⟩
      refine Rv.lst' (k := i.size) (vs := vs ++ news) hlen' ?_ hall ?_ ?_ hcapge
      · rw [flat_append]; exact (hl.mono hle).append (hnrel.mono hle)
      · intro j v hv
        simp only [Gh.row, Nat.zero_add, if_true]
        exact hv
      · exact ⟨rfl, by simp [Gh.row]⟩

/-- 'append' onto nil, of something. -/
theorem op_append_nil {t tx e e' : TypeId} {x y : Operand} {k bytes : Nat} {ys : List AV} {src : AV} (ho : o.op = .call { callee := .builtin .append, args := #[x, y], argTypes := #[t, tx] }) (hd : dstOK o.dst s.n = true)
    (ht : P.underlying t = some (.slice e)) (he : elI P e k bytes = true) (htx : P.underlying tx = some (.slice e') ∨ (P.underlying tx = some .string ∧ k = 1)) (hstr : ∀ l, src = .str l → P.underlying tx = some .string ∧ k = 1) (hnstr : (∀ l, src ≠ .str l) → P.underlying tx = some (.slice e'))
    (hx : s.ev x = some .nils) (hy : s.ev y = some src) (hs : SrcOf src ys) (hne : 0 < ys.length) (hlen : ∀ y ∈ ys, y.cells.length = k) (h1 : (ys.flatMap AV.cells).all AV.one = true) (hbd : ys.length * bytes ≤ 140737488355328) (hb0 : decide (0 < bytes) = true)
    (h : N (ASt.put { s with H := s.H ++ [.tok e k ys.length] } o.dst (.lst ys (some s.H.length)))) : AOp P o N Q s := by
  refine op_gen (s' := { s with H := s.H ++ [.tok e k ys.length] }) rfl rfl rfl hd (fun G W a ra r => ?_) h
  have hb0 := of_decide_eq_true hb0
  obtain ⟨i, z, hi, hik, hib, hiz, hzk⟩ := elI_info he
  obtain ⟨news, hsrc, hnrel⟩ := src_rel (P := P) (W := W) r hs (ev_eval ra hy) htx hlen h1 hstr hnstr
  have hnl := hnrel.length
  rw [flat_length hlen] at hnl
  have hrel := ev_eval ra hx
  generalize hev : a.eval x = vx at hrel
  cases hrel
  have h63 : ((0 + ys.length : Nat) : Int) ≤ 9223372036854775807 := by
    have := Nat.le_mul_of_pos_right ys.length hb0
    omega
  have hold : (Builtin.firstCells i.size 0 (.slice none 0 0)).run P W.drew = .ok ([] : List Value).toArray W.drew := run_firstCells_none W.drew i.size 0 0 0
  subst hik
  have hrun := run_append_grow_src (P := P) W t tx o.type e i z ht hi hiz none 0 0 [] hold (a.eval y) ys.length news hsrc (by omega) h63 (growslice_fits (by omega) (by rw [hib, Nat.zero_add]; exact hbd))
  rw [← hev] at hrun
  simp only [Nat.zero_add, List.nil_append] at hrun
  have hcapge := grownCap_ge W ys.length 0 e
  have hblk := row_block (cs := news) (z := z.cells) (m := grownCap W ys.length 0 e - ys.length) (t := e) (W := W) (W1 := W.drew) rfl
  have hgn : ∀ m p, G.gen s.H.length m = some p → m < ys.length := fun m p hp => absurd (r.domg _ m p hp) (Nat.lt_irrefl _)
  have r' := r.new_row (g := s.H.length) (H' := s.H ++ [.tok e i.size ys.length]) ((Grow.drew W).trans (Grow.alloc W.drew _))
    (fun q hq => by
      by_cases hl : q < s.H.length
      · exact List.getElem?_append_left hl
      · rw [List.getElem?_eq_none (by simp; omega), List.getElem?_eq_none (by omega)])
    (by simp) (by simp) hnl.symm hcapge hgn (r.not_fixed (by simp)) hblk
    (by simp only [Array.size_append, List.size_toArray, size_zeroCells, ← hnl, hzk]; rw [← Nat.add_mul, show ys.length + (grownCap W ys.length 0 e - ys.length) = grownCap W ys.length 0 e by omega]) row_get
  have hg0 : G.gen s.H.length ys.length = none := by
    cases h : G.gen s.H.length ys.length with
    | none => rfl
    | some p => exact absurd (hgn _ p h) (Nat.lt_irrefl _)
  have hle := Gh.row_le (r := r) (vs := news) (cap := grownCap W ys.length 0 e) hg0 (r.not_fixed (by simp))
  refine ⟨_, _, _, append_run ho hrun, ?_, r', hle⟩
  refine .lst (k := i.size) (vs := news) (hnrel.mono hle) hlen (fun j v hv => ?_) ⟨rfl, by simp [Gh.row]⟩ hcapge
  simp only [Gh.row, Nat.zero_add, if_true]
  exact hv
end

end Go.Abs
