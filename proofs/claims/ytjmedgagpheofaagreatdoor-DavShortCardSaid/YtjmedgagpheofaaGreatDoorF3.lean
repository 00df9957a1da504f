/- The abstract layer: the operations on memory. -/
import Derived.Test.YtjmedgagpheofaaGreatDoorF2
import Derived.Laws.Cells
import Derived.Laws.IdiomCopy
set_option linter.unusedSectionVars false
set_option linter.unusedVariables false
set_option linter.unusedSimpArgs false
set_option linter.constructorNameAsVariable false
namespace Go.Abs
open Go.RowKit
variable [Tabs]

theorem add_eq (b o i : Nat) : (⟨b, o, none⟩ : Addr).add i = ⟨b, o + i, none⟩ := by unfold Addr.add; split <;> simp_all

section world
variable {G : Gh} {H : List AObj} {W : World}

/-- Blocks laid on top: everything lives on. -/
structure Grow (W W' : World) : Prop where
  size : W.heap.size ≤ W'.heap.size
  block : ∀ k, k < W.heap.size → W'.heap[k]? = W.heap[k]?
  os : W'.os = W.os
  tape : W'.tape = W.tape
  output : W'.output = W.output
theorem Grow.cell {W W' : World} (h : Grow W W') {a : Addr} (hb : a.block < W.heap.size) : W'.cell? a = W.cell? a := World.cell?_of_block (w := W) (h.block a.block hb)
theorem Grow.frozen {W W' : World} (h : Grow W W') {a : Addr} (hb : a.block < W.heap.size) : W'.frozen? a = W.frozen? a := World.frozen?_of_block (w := W) (h.block a.block hb)
theorem Grow.alloc (W : World) (o : Obj) : Grow W (W.alloc o) := ⟨by simp, fun k hk => Below.heap_alloc W o k hk, rfl, rfl, rfl⟩
theorem Grow.refl (W : World) : Grow W W := ⟨Nat.le_refl _, fun _ _ => rfl, rfl, rfl, rfl⟩
theorem Grow.trans {a b c : World} (h : Grow a b) (k : Grow b c) : Grow a c :=
  ⟨Nat.le_trans h.size k.size, fun i hi => (k.block i (Nat.lt_of_lt_of_le hi h.size)).trans (h.block i hi), k.os.trans h.os, k.tape.trans h.tape, k.output.trans h.output⟩
theorem Grow.drew (W : World) : Grow W W.drew := ⟨Nat.le_refl _, fun _ _ => rfl, rfl, rfl, rfl⟩
theorem Grow.keep {W W' : World} {K : Nat → Prop} {w0 : World} (h : Grow W W') (hb : Keep K w0 W) (hK : ∀ k, K k → k < W.heap.size) : Keep K w0 W' :=
  hb.trans ⟨h.os, h.tape, h.output, h.size, fun k hk => h.block k (hK k hk)⟩

theorem R.kept_lt (r : R G H W) (k : Nat) (h : G.kept k) : k < W.heap.size := Nat.lt_of_lt_of_le (r.base k h) r.below.size
theorem R.not_kept (r : R G H W) {b : Nat} (hb : W.heap.size ≤ b) : ¬ G.kept b := fun h => absurd (r.kept_lt b h) (by omega)
theorem fixed_app {F : Nat → Prop} {H L : List AObj} (h : ∀ g, F g → H[g]? = some .dead) : ∀ g, F g → (H ++ L)[g]? = some .dead := by
  intro g hg
  have h1 := h g hg
  have : g < H.length := by
    rcases Nat.lt_or_ge g H.length with h' | h'
    · exact h'
    · rw [List.getElem?_eq_none h'] at h1; cases h1
  rw [List.getElem?_append_left this]; exact h1
theorem fixed_set {F : Nat → Prop} {H : List AObj} {k : Nat} {o o' : AObj} (h : ∀ g, F g → H[g]? = some .dead) (hk : H[k]? = some o) (ho : o ≠ .dead) : ∀ g, F g → (H.set k o')[g]? = some .dead := by
  intro g hg
  have h1 := h g hg
  have : k ≠ g := by
    rintro rfl
    rw [hk] at h1
    exact ho (Option.some.inj h1)
  rw [List.getElem?_set_ne this]; exact h1

theorem RO.grow {W W' : World} (hg : Grow W W') (hown : ∀ b i, G.own b i ≠ none → b < W.heap.size) {r : Nat} {o : AObj} (h : RO G W r o) : RO G W' r o :=
  h.keep (.refl G) (fun _ _ _ h => h) (fun _ _ h => h) (fun b i j h => hg.block b (hown b i (by rw [h]; simp)))

theorem entriesOK.mono {G G' : Gh} (h : G.le G') {es : List (Nat × AV × AV)} {ms : List MapEntry} (he : entriesOK G es ms) : entriesOK G' es ms := he.monoS h.tosub

/-- An object's description lives on where the ghost state grows. -/
theorem RO.mono {G G' : Gh} (hle : G.le G') (hown : ∀ b i p, G.own b i = some p → G'.own b i = some p) {r : Nat} {o : AObj} (hgen : ∀ m, G'.gen r m = G.gen r m) (h : RO G W r o) : RO G' W r o :=
  h.keep hle.tosub (fun b i j h => hown b i _ h) (fun m p h => by rw [← hgen]; exact h) (fun _ _ _ _ => rfl)

/-- The world has grown: the relation lives on. -/
theorem R.grow (r : R G H W) {W' : World} (hg : Grow W W') : R G H W' where
  imm := fun b i v h => (hg.cell (a := ⟨b, i, none⟩) (r.immB h)).trans (r.imm b i v h)
  apart := r.apart
  own := fun b i h => ⟨(r.own b i h).1, Nat.lt_of_lt_of_le (r.own b i h).2 hg.size⟩
  dom := r.dom
  domg := r.domg
  sep := r.sep
  below := hg.keep r.below r.kept_lt
  base := r.base
  fixed := r.fixed
  tab := r.tab
  obj := fun k o h => (r.obj k o h).grow hg (fun b i hi => (r.own b i hi).2)

theorem R.lt_of {k : Nat} {o : AObj} (h : H[k]? = some o) : k < H.length := by
  rcases Nat.lt_or_ge k H.length with h' | h'
  · exact h'
  · rw [List.getElem?_eq_none h'] at h; cases h

/-- One object is turned; the others stand. -/
theorem R.upd (r : R G H W) {G' : Gh} {W' : World} {k : Nat} {o' : AObj} (hle : G.le G') (hk : k < H.length) (hf : ¬ G.fixed k) (himm : ∀ b i v, G'.imm b i = some v → W'.cell? ⟨b, i, none⟩ = some v) (hap : ∀ b i, G'.imm b i ≠ none → G'.own b i = none)
    (how : ∀ b i p, G'.own b i = some p → ¬ G.kept b ∧ b < W'.heap.size) (hsep : ∀ b i i' p p', G'.own b i = some p → G'.own b i' = some p' → p.1 = p'.1) (hdom : ∀ q p, G'.place q = some p → q < H.length) (hdomg : ∀ q m p, G'.gen q m = some p → q < H.length)
    (hkeep : Keep G.kept W W') (hobj : RO G' W' k o') (hoth : ∀ q b i j, q ≠ k → G.own b i = some (q, j) → G'.own b i = some (q, j) ∧ W'.heap[b]? = W.heap[b]?) (hgen : ∀ q m p, q ≠ k → G'.gen q m = some p → G.gen q m = some p) : R G' (H.set k o') W' := by
  refine ⟨himm, hap, fun b i h => ?_, hsep, fun q p h => by simpa using hdom q p h, fun q m p h => by simpa using hdomg q m p h, ?_, fun b hb => ?_, fun g hg => ?_, fun q o h => ?_, ?_⟩
  · cases hx : G'.own b i with
    | none => exact absurd hx h
    | some p => rw [hle.kept]; exact how b i p hx
  · rw [hle.kept, hle.w0]; exact r.below.trans hkeep
  · rw [hle.kept] at hb; rw [hle.w0]; exact r.base b hb
  · rw [hle.fixed] at hg
    have : k ≠ g := by rintro rfl; exact hf hg
    rw [List.getElem?_set_ne this]; exact r.fixed g hg
  · by_cases e : q = k
    · subst e
      rw [List.getElem?_set_self hk] at h
      simp only [Option.some.injEq] at h; subst h
      exact hobj
    · rw [List.getElem?_set_ne (Ne.symm e)] at h
      exact (r.obj q o h).keep hle.tosub (fun b i j h => (hoth q b i j e h).1) (fun m p h => hgen q m p e h) (fun b i j h => (hoth q b i j e h).2)
  · rw [hle.kept, hle.w0]; exact r.tab

theorem app_set_last (H : List AObj) (o o' : AObj) : (H ++ [o]).set H.length o' = H ++ [o'] := by
  rw [List.set_append_right _ _ (Nat.le_refl _)]; simp
/-- A place without an object. -/
theorem R.app_dead (r : R G H W) : R G (H ++ [.dead]) W := by
  refine ⟨r.imm, r.apart, r.own, r.sep, fun q p h => ?_, fun q m p h => ?_, r.below, r.base, fixed_app r.fixed, fun q o h => ?_, r.tab⟩
  · have := r.dom q p h; simp; omega
  · have := r.domg q m p h; simp; omega
  · by_cases hq : q < H.length
    · rw [List.getElem?_append_left hq] at h; exact r.obj q o h
    · rw [List.getElem?_append_right (by omega)] at h
      have : q - H.length = 0 := by
        rcases Nat.eq_zero_or_pos (q - H.length) with h' | h'
        · exact h'
        · rw [List.getElem?_eq_none (by simp; omega)] at h; cases h
      rw [this] at h
      simp at h; subst h; trivial

theorem R.imm_none (r : R G H W) {b : Nat} (hb : W.heap.size ≤ b) (i : Nat) : G.imm b i = none := by
  cases h : G.imm b i with
  | none => rfl
  | some v => exact absurd (r.immB h) (by omega)
theorem R.own_none (r : R G H W) {b : Nat} (hb : W.heap.size ≤ b) (i : Nat) : G.own b i = none := by
  cases h : G.own b i with
  | none => rfl
  | some v => exact absurd (r.own b i (by rw [h]; simp)).2 (by omega)
theorem R.place_none (r : R G H W) {k : Nat} (hk : H.length ≤ k) : G.place k = none := by
  cases h : G.place k with
  | none => rfl
  | some p => exact absurd (r.dom _ _ h) (by omega)
theorem R.gen_none (r : R G H W) {k : Nat} (hk : H.length ≤ k) (m : Nat) : G.gen k m = none := by
  cases h : G.gen k m with
  | none => rfl
  | some p => exact absurd (r.domg _ _ _ h) (by omega)
theorem R.not_fixed (r : R G H W) {g : Nat} (h : H[g]? ≠ some .dead) : ¬ G.fixed g := fun hf => h (r.fixed g hf)

/-- A new object, in a block of its own. -/
def Gh.withBlock (G : Gh) (r b : Nat) : Gh :=
  { G with place := fun k => if k = r then some (b, 0) else G.place k, own := fun c i => if c = b then some (r, i) else G.own c i }
theorem Gh.withBlock_le {r b : Nat} (h : G.place r = none) (hf : ¬ G.fixed r) : G.le (G.withBlock r b) :=
  ⟨⟨fun k p hp => by simp only [Gh.withBlock]; rw [if_neg (by rintro rfl; rw [h] at hp; cases hp)]; exact hp, fun _ _ _ h => h, fun _ _ _ h => h⟩, rfl, rfl, rfl, fun _ _ _ h => .inl h, fun _ _ _ h => .inl h, fun k p hp => by
    simp only [Gh.withBlock] at hp
    split at hp
    · rename_i e; subst e; exact .inr hf
    · exact .inl hp⟩
theorem place_withBlock {r b : Nat} : (G.withBlock r b).place r = some (b, 0) := by simp [Gh.withBlock]
theorem own_withBlock {r b i : Nat} : (G.withBlock r b).own b i = some (r, i) := by simp [Gh.withBlock]

theorem R.new_at (r : R G H W) {k : Nat} {ob : Obj} {o' : AObj} (hk : k < H.length) (hp : G.place k = none) (hg : ∀ m, G.gen k m = none) (hf : ¬ G.fixed k) (hobj : RO (G.withBlock k W.heap.size) (W.alloc ob) k o') :
    R (G.withBlock k W.heap.size) (H.set k o') (W.alloc ob) ∧ G.le (G.withBlock k W.heap.size) := by
  have hgr := Grow.alloc W ob
  have hle : G.le (G.withBlock k W.heap.size) := Gh.withBlock_le hp hf
  refine ⟨r.upd hle hk hf ?_ ?_ ?_ ?_ ?_ (fun q m p h => r.domg q m p h) ⟨hgr.os, hgr.tape, hgr.output, hgr.size, fun b hb => hgr.block b (r.kept_lt b hb)⟩ hobj ?_ (fun _ _ _ _ h => h), hle⟩
  · exact fun b i v h => (hgr.cell (a := ⟨b, i, none⟩) (r.immB h)).trans (r.imm b i v h)
  · intro b i h
    have hb : b < W.heap.size := by
      cases h' : G.imm b i with
      | none => exact absurd h' h
      | some v => exact r.immB h'
    simp only [Gh.withBlock]
    rw [if_neg (by omega)]; exact r.apart b i h
  · intro b i p h
    simp only [Gh.withBlock] at h
    split at h
    · rename_i e; rw [e]; exact ⟨r.not_kept (Nat.le_refl _), by simp⟩
    · exact ⟨(r.ownB h).1, Nat.lt_of_lt_of_le (r.ownB h).2 hgr.size⟩
  · intro c i i' p p' h h'
    simp only [Gh.withBlock] at h h'
    split at h
    · rename_i e
      rw [if_pos e] at h'
      simp only [Option.some.injEq] at h h'
      rw [← h, ← h']
    · rename_i e
      rw [if_neg e] at h'
      exact r.sep c i i' p p' h h'
  · intro q p h
    simp only [Gh.withBlock] at h
    split at h
    · rename_i e; rw [e]; exact hk
    · exact r.dom q p h
  · intro q b i j _ h
    have hb := (r.ownB h).2
    refine ⟨?_, hgr.block b hb⟩
    simp only [Gh.withBlock]
    rw [if_neg (by omega)]; exact h

/-- .. behind all others. -/
theorem R.new_last (r : R G H W) {ob : Obj} {o' : AObj} (hobj : RO (G.withBlock H.length W.heap.size) (W.alloc ob) H.length o') :
    R (G.withBlock H.length W.heap.size) (H ++ [o']) (W.alloc ob) ∧ G.le (G.withBlock H.length W.heap.size) := by
  have := r.app_dead.new_at (k := H.length) (ob := ob) (o' := o') (by simp) (r.place_none (Nat.le_refl _)) (r.gen_none (Nat.le_refl _)) (r.not_fixed (by simp)) hobj
  rwa [app_set_last] at this

/-- Cells that never change any more, in a block of their own. -/
def Gh.withImm (G : Gh) (b : Nat) (vs : List Value) : Gh := { G with imm := fun c i => if c = b then vs[i]? else G.imm c i }
theorem Gh.withImm_le {b : Nat} {vs : List Value} (h : ∀ i, G.imm b i = none) (hb : ¬ G.kept b) : G.le (G.withImm b vs) :=
  ⟨⟨fun _ _ h => h, fun c i v hv => by simp only [Gh.withImm]; rw [if_neg (by rintro rfl; rw [h] at hv; cases hv)]; exact hv, fun _ _ _ h => h⟩, rfl, rfl, rfl, fun c i v hv => by
    simp only [Gh.withImm] at hv
    split at hv
    · rename_i e; subst e; exact .inr hb
    · exact .inl hv, fun _ _ _ h => .inl h, fun _ _ h => .inl h⟩

theorem R.new_imm (r : R G H W) {W' : World} (hg : Grow W W') {vs : List Value} (hc : ∀ j v, vs[j]? = some v → W'.cell? ⟨W.heap.size, j, none⟩ = some v) : R (G.withImm W.heap.size vs) H W' := by
  have hle : G.le (G.withImm W.heap.size vs) := Gh.withImm_le (r.imm_none (Nat.le_refl _)) (r.not_kept (Nat.le_refl _))
  refine ⟨?_, ?_, ?_, r.sep, r.dom, r.domg, hg.keep r.below r.kept_lt, r.base, r.fixed, ?_, r.tab⟩
  · intro b i v h
    simp only [Gh.withImm] at h
    split at h
    · rename_i e; subst e; exact hc i v h
    · exact (hg.cell (a := ⟨b, i, none⟩) (r.immB h)).trans (r.imm b i v h)
  · intro b i h
    simp only [Gh.withImm] at h
    split at h
    · rename_i e; subst e; exact r.own_none (Nat.le_refl _) i
    · exact r.apart b i h
  · exact fun b i h => ⟨(r.own b i h).1, Nat.lt_of_lt_of_le (r.own b i h).2 hg.size⟩
  · exact fun k o h => ((r.obj k o h).grow hg (fun b i hi => (r.own b i hi).2)).mono hle (fun _ _ _ h => h) (fun _ => rfl)

theorem heap_setCell_self {W : World} {b i : Nat} {c : Array Value} {t : TypeId} {f : Nat × Nat} {v : Value} (h : W.heap[b]? = some (.cells c t f)) : (W.setCell ⟨b, i, none⟩ v).heap[b]? = some (.cells (c.setIfInBounds i v) t f) := by
  simp [World.setCell, Array.getElem?_modify, h]

/-- One cell of an object is written. -/
theorem R.set_cell (r : R G H W) {k i b o : Nat} {t : TypeId} {cs : List AV} (hk : H[k]? = some (.cells t cs)) (hi : i < cs.length) (hp : G.place k = some (b, o)) {a : AV} {v : Value} (hv : Rv G a v) :
    W.cell? ⟨b, o + i, none⟩ ≠ none ∧ W.frozen? ⟨b, o + i, none⟩ = false ∧ R G (H.set k (.cells t (cs.set i a))) (W.setCell ⟨b, o + i, none⟩ v) := by
  obtain ⟨b', vs, hp', ho, hl, hb⟩ := r.obj k _ hk
  rw [hp] at hp'; simp only [Option.some.injEq, Prod.mk.injEq] at hp'
  obtain ⟨rfl, rfl⟩ := hp'
  rw [Nat.zero_add]
  have hil : i < vs.length := by rw [← hl.length]; exact hi
  have hset := heap_setCell_self (i := i) (v := v) hb
  have hoth : ∀ c, c ≠ b → (W.setCell ⟨b, i, none⟩ v).heap[c]? = W.heap[c]? := fun c hc => Below.heap_setCell W _ _ _ hc
  have hb0 := r.ownB (ho 0)
  refine ⟨by simp [World.cell?, hb, hil], by simp [World.frozen?, hb], r.upd (.refl G) (R.lt_of hk) (r.not_fixed (by rw [hk]; simp)) ?_ r.apart ?_ r.sep r.dom r.domg ?_ ?_ ?_ (fun _ _ _ _ h => h)⟩
  · intro c j u h
    have h1 := r.imm c j u h
    have e : c ≠ b := by
      rintro rfl
      have := r.apart c j (by rw [h]; simp)
      rw [ho j] at this; cases this
    rw [World.cell?_of_block (w := W) (hoth c e)]; exact h1
  · intro c j p h; simpa using r.ownB h
  · exact ⟨rfl, rfl, rfl, by simp, fun q hq => hoth q (by rintro rfl; exact hb0.1 hq)⟩
  · refine ⟨b, vs.set i v, hp, ho, hl.set i hv, ?_⟩
    rw [hset]; simp
  · intro q c j p hq h
    exact ⟨h, hoth c (r.ne_block h (ho 0) hq)⟩
end world

end Go.Abs
