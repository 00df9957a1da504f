/- An abstract layer over the kit's calculus: values as data, objects by number; the relation to a world, and how it lives on. -/
import Derived.Calls
import Derived.Below
import Derived.Laws.Sem
import Derived.Laws.World
import Derived.Laws.NewBlocks
import Derived.KernelRfl
set_option linter.unusedSectionVars false
set_option linter.unusedVariables false
set_option linter.unusedSimpArgs false
set_option linter.constructorNameAsVariable false
namespace Go.Abs
open Go.RowKit

/-- Package-level variables that nobody writes: how many blocks they have, and what is known of these. -/
class Tabs where
  n : Nat
  ok : World → Prop
  stable : ∀ w w' : World, (∀ k, k < n → w'.heap[k]? = w.heap[k]?) → ok w → ok w'

abbrev Str := List UInt8

inductive AV where
  | bool (b : Bool)
  | int (k : IntKind) (n : Int)
  | str (s : Str)
  | agg (cs : List AV)
  | tuple (vs : List AV)
  | nilp
  | ptr (r i : Nat)
  | iptr (cs : List AV)
  | nils
  | lst (xs : List AV) (tok : Option Nat)
  | emp
  | slc (r k off n : Nat)
  | dptr (xs : List AV) (g : Nat)
  | func (fn : Fn) (caps : List AV)
  | nilf
  | nilm
  | mapv (r : Nat)
  | iface (t : TypeId) (v : AV)
  | nili
  deriving Inhabited

def AV.cells : AV → List AV
  | .agg cs => cs
  | v => [v]

def mkS (s : Str) : ByteArray := ⟨s.toArray⟩

/-- Blocks that stand as they stood. -/
structure Keep (K : Nat → Prop) (w w' : World) : Prop where
  os : w'.os = w.os
  tape : w'.tape = w.tape
  output : w'.output = w.output
  size : w.heap.size ≤ w'.heap.size
  block : ∀ k, K k → w'.heap[k]? = w.heap[k]?
theorem Keep.refl (K : Nat → Prop) (w : World) : Keep K w w := ⟨rfl, rfl, rfl, Nat.le_refl _, fun _ _ => rfl⟩
theorem Keep.trans {K : Nat → Prop} {a b c : World} (h : Keep K a b) (k : Keep K b c) : Keep K a c := ⟨k.os.trans h.os, k.tape.trans h.tape, k.output.trans h.output, Nat.le_trans h.size k.size, fun i hi => (k.block i hi).trans (h.block i hi)⟩
theorem Keep.below {B : Nat} {w w' : World} (h : Keep (· < B) w w') : Below B w w' := ⟨h.os, h.tape, h.output, h.size, h.block⟩

structure Gh where
  place : Nat → Option (Nat × Nat)
  imm : Nat → Nat → Option Value
  own : Nat → Nat → Option (Nat × Nat)
  gen : Nat → Nat → Option (Nat × Nat)
  kept : Nat → Prop
  fixed : Nat → Prop
  w0 : World

/-- What values lean on. -/
structure Gh.sub (G G' : Gh) : Prop where
  place : ∀ r p, G.place r = some p → G'.place r = some p
  imm : ∀ b i v, G.imm b i = some v → G'.imm b i = some v
  gen : ∀ g n p, G.gen g n = some p → G'.gen g n = some p
structure Gh.le (G G' : Gh) : Prop extends Gh.sub G G' where
  kept : G'.kept = G.kept
  fixed : G'.fixed = G.fixed
  w0 : G'.w0 = G.w0
  newimm : ∀ b i v, G'.imm b i = some v → G.imm b i = some v ∨ ¬ G.kept b
  newgen : ∀ g n p, G'.gen g n = some p → G.gen g n = some p ∨ ¬ G.fixed g
  newplace : ∀ g p, G'.place g = some p → G.place g = some p ∨ ¬ G.fixed g
theorem Gh.sub.refl (G : Gh) : G.sub G := ⟨fun _ _ h => h, fun _ _ _ h => h, fun _ _ _ h => h⟩
theorem Gh.le.refl (G : Gh) : G.le G := ⟨.refl G, rfl, rfl, rfl, fun _ _ _ h => .inl h, fun _ _ _ h => .inl h, fun _ _ h => .inl h⟩
theorem Gh.le.trans {G G' G'' : Gh} (h : G.le G') (h' : G'.le G'') : G.le G'' :=
  ⟨⟨fun r p x => h'.place r p (h.place r p x), fun b i v x => h'.imm b i v (h.imm b i v x), fun g n p x => h'.gen g n p (h.gen g n p x)⟩, h'.kept.trans h.kept, h'.fixed.trans h.fixed, h'.w0.trans h.w0,
   fun b i v x => by
    rcases h'.newimm b i v x with h1 | h1
    · exact h.newimm b i v h1
    · rw [h.kept] at h1; exact .inr h1,
   fun g n p x => by
    rcases h'.newgen g n p x with h1 | h1
    · exact h.newgen g n p h1
    · rw [h.fixed] at h1; exact .inr h1,
   fun g p x => by
    rcases h'.newplace g p x with h1 | h1
    · exact h.newplace g p h1
    · rw [h.fixed] at h1; exact .inr h1⟩

def tokOK (G : Gh) (tok : Option Nat) (n b o cap : Nat) : Prop :=
  match tok with
  | none => True
  | some g => o = 0 ∧ G.gen g n = some (b, cap)

mutual
inductive Rv (G : Gh) : AV → Value → Prop
  | bool (b : Bool) : Rv G (.bool b) (.bool b)
  | int (k : IntKind) (n : Int) : Rv G (.int k n) (.int k n)
  | str (s : Str) : Rv G (.str s) (.string (mkS s))
  | agg {cs : List AV} {vs : List Value} : RvL G cs vs → Rv G (.agg cs) (.agg vs.toArray)
  | tuple {cs : List AV} {vs : List Value} : RvL G cs vs → Rv G (.tuple cs) (.tuple vs.toArray)
  | nilp : Rv G .nilp (.pointer none)
  | ptr {r i b o : Nat} : G.place r = some (b, o) → Rv G (.ptr r i) (.pointer (some ⟨b, o + i, none⟩))
  | iptr {cs : List AV} {vs : List Value} {b o : Nat} : RvL G cs vs → (∀ j v, vs[j]? = some v → G.imm b (o + j) = some v) → Rv G (.iptr cs) (.pointer (some ⟨b, o, none⟩))
  | nils : Rv G .nils (.slice none 0 0)
  | lnil : Rv G (.lst [] none) (.slice none 0 0)
  | lst {k : Nat} {xs : List AV} {tok : Option Nat} {vs : List Value} {b o cap : Nat} : RvL G (xs.flatMap AV.cells) vs → (∀ x ∈ xs, x.cells.length = k) →
      (∀ j v, vs[j]? = some v → G.imm b (o + j) = some v) → tokOK G tok xs.length b o cap → xs.length ≤ cap → Rv G (.lst xs tok) (.slice (some ⟨b, o, none⟩) xs.length cap)
  | emp {b o : Nat} : Rv G .emp (.slice (some ⟨b, o, none⟩) 0 0)
  | slc {r k off n b cap : Nat} : G.place r = some (b, 0) → G.gen r 0 = some (b, cap) → off + n ≤ cap → Rv G (.slc r k off n) (.slice (some ⟨b, off * k, none⟩) n (cap - off))
  | dptr {xs : List AV} {g : Nat} {vs : List Value} {b cap : Nat} : RvL G (xs.flatMap AV.cells) vs → (∀ j v, vs[j]? = some v → G.imm b j = some v) → G.gen g xs.length = some (b, cap) → Rv G (.dptr xs g) (.pointer (some ⟨b, 0, none⟩))
  | func {fn : Fn} {cs : List AV} {vs : List Value} : RvL G cs vs → Rv G (.func fn cs) (.func fn #[] vs.toArray)
  | nilf : Rv G .nilf .nilFunc
  | nilm : Rv G .nilm (.map none)
  | mapv {r b : Nat} : G.place r = some (b, 0) → Rv G (.mapv r) (.map (some b))
  | iface {t : TypeId} {a : AV} {v : Value} : Rv G a v → Rv G (.iface t a) (.iface t v)
  | nili : Rv G .nili .nilIface
inductive RvL (G : Gh) : List AV → List Value → Prop
  | nil : RvL G [] []
  | cons {a : AV} {v : Value} {as : List AV} {vs : List Value} : Rv G a v → RvL G as vs → RvL G (a :: as) (v :: vs)
end

theorem tokOK.monoS {G G' : Gh} (h : G.sub G') {tok : Option Nat} {n b o cap : Nat} (ht : tokOK G tok n b o cap) : tokOK G' tok n b o cap := by
  cases tok with
  | none => trivial
  | some g => exact ⟨ht.1, h.gen _ _ _ ht.2⟩

mutual
theorem Rv.monoS {G G' : Gh} (h : G.sub G') : ∀ {a : AV} {v : Value}, Rv G a v → Rv G' a v
  | _, _, .bool b => .bool b
  | _, _, .int k n => .int k n
  | _, _, .str s => .str s
  | _, _, .agg hl => .agg (RvL.monoS h hl)
  | _, _, .tuple hl => .tuple (RvL.monoS h hl)
  | _, _, .nilp => .nilp
  | _, _, .ptr hp => .ptr (h.place _ _ hp)
  | _, _, .iptr hl hi => .iptr (RvL.monoS h hl) (fun j v hv => h.imm _ _ _ (hi j v hv))
  | _, _, .nils => .nils
  | _, _, .lnil => .lnil
  | _, _, .lst hl hk hi ht hc => .lst (RvL.monoS h hl) hk (fun j v hv => h.imm _ _ _ (hi j v hv)) (ht.monoS h) hc
  | _, _, .emp => .emp
  | _, _, .slc hp hg hn => .slc (h.place _ _ hp) (h.gen _ _ _ hg) hn
  | _, _, .dptr hl hi hg => .dptr (RvL.monoS h hl) (fun j v hv => h.imm _ _ _ (hi j v hv)) (h.gen _ _ _ hg)
  | _, _, .func hl => .func (RvL.monoS h hl)
  | _, _, .nilf => .nilf
  | _, _, .nilm => .nilm
  | _, _, .mapv hp => .mapv (h.place _ _ hp)
  | _, _, .iface ha => .iface (Rv.monoS h ha)
  | _, _, .nili => .nili
theorem RvL.monoS {G G' : Gh} (h : G.sub G') : ∀ {as : List AV} {vs : List Value}, RvL G as vs → RvL G' as vs
  | _, _, .nil => .nil
  | _, _, .cons ha hl => .cons (Rv.monoS h ha) (RvL.monoS h hl)
end

theorem tokOK.mono {G G' : Gh} (h : G.le G') {tok : Option Nat} {n b o cap : Nat} (ht : tokOK G tok n b o cap) : tokOK G' tok n b o cap := ht.monoS h.tosub
theorem Rv.mono {G G' : Gh} (h : G.le G') {a : AV} {v : Value} (hr : Rv G a v) : Rv G' a v := hr.monoS h.tosub
theorem RvL.mono {G G' : Gh} (h : G.le G') {as : List AV} {vs : List Value} (hr : RvL G as vs) : RvL G' as vs := hr.monoS h.tosub

theorem RvL.length {G : Gh} : ∀ {as : List AV} {vs : List Value}, RvL G as vs → as.length = vs.length
  | _, _, .nil => rfl
  | _, _, .cons _ hl => by simp [RvL.length hl]
theorem RvL.append {G : Gh} : ∀ {as : List AV} {vs : List Value} {bs : List AV} {ws : List Value}, RvL G as vs → RvL G bs ws → RvL G (as ++ bs) (vs ++ ws)
  | _, _, _, _, .nil, h => h
  | _, _, _, _, .cons ha hl, h => .cons ha (RvL.append hl h)
theorem RvL.get {G : Gh} : ∀ {as : List AV} {vs : List Value}, RvL G as vs → ∀ (i : Nat) (a : AV), as[i]? = some a → ∃ v, vs[i]? = some v ∧ Rv G a v
  | _, _, .nil, i, a, h => by simp at h
  | _, _, .cons ha hl, 0, a, h => by simp at h; subst h; exact ⟨_, rfl, ha⟩
  | _, _, .cons ha hl, i + 1, a, h => by simpa using RvL.get hl i a (by simpa using h)
theorem RvL.take {G : Gh} : ∀ {as : List AV} {vs : List Value}, RvL G as vs → ∀ (n : Nat), RvL G (as.take n) (vs.take n)
  | _, _, .nil, n => by simpa using RvL.nil
  | _, _, .cons ha hl, 0 => by simpa using RvL.nil
  | _, _, .cons ha hl, n + 1 => by simpa using RvL.cons ha (RvL.take hl n)
theorem RvL.drop {G : Gh} : ∀ {as : List AV} {vs : List Value}, RvL G as vs → ∀ (n : Nat), RvL G (as.drop n) (vs.drop n)
  | _, _, .nil, n => by simpa using RvL.nil
  | _, _, .cons ha hl, 0 => by simpa using RvL.cons ha hl
  | _, _, .cons ha hl, n + 1 => by simpa using RvL.drop hl n
theorem RvL.set {G : Gh} : ∀ {as : List AV} {vs : List Value}, RvL G as vs → ∀ (i : Nat) {a : AV} {v : Value}, Rv G a v → RvL G (as.set i a) (vs.set i v)
  | _, _, .nil, i, _, _, _ => by simpa using RvL.nil
  | _, _, .cons ha hl, 0, _, _, h => by simpa using RvL.cons h hl
  | _, _, .cons ha hl, i + 1, _, _, h => by simpa using RvL.cons ha (RvL.set hl i h)
/-- A list of values splits as its description does. -/
theorem RvL.split {G : Gh} : ∀ {as bs : List AV} {vs : List Value}, RvL G (as ++ bs) vs → ∃ ws us, vs = ws ++ us ∧ RvL G as ws ∧ RvL G bs us
  | [], _, vs, h => ⟨[], vs, rfl, .nil, h⟩
  | _ :: _, _, _, .cons ha hl => let ⟨ws, us, e, h1, h2⟩ := RvL.split hl; ⟨_ :: ws, us, by rw [e]; rfl, .cons ha h1, h2⟩

/-- The cells of a value that is described. -/
theorem Rv.cellsL {G : Gh} {a : AV} {v : Value} (h : Rv G a v) : RvL G a.cells v.cells.toList := by
  cases h
  case agg hl => simpa [AV.cells, Value.cells] using hl
  all_goals (simp only [AV.cells, Value.cells]; exact .cons (by constructor <;> assumption) .nil)

/-- A value of one cell. -/
def AV.one : AV → Bool
  | .agg _ | .tuple _ => false
  | _ => true
theorem Rv.oneCell {G : Gh} {a : AV} {v : Value} (h : Rv G a v) (h1 : a.one = true) : v.oneCell' = true := by cases h <;> first | rfl | simp [AV.one] at h1
theorem RvL.oneCell {G : Gh} : ∀ {as : List AV} {vs : List Value}, RvL G as vs → as.all AV.one = true → ∀ v ∈ vs, v.oneCell' = true
  | _, _, .nil, _, v, hv => by cases hv
  | _, _, .cons ha hl, h1, v, hv => by
    simp only [List.all_cons, Bool.and_eq_true] at h1
    cases hv with
    | head => exact ha.oneCell h1.1
    | tail _ hm => exact RvL.oneCell hl h1.2 v hm

/-- Objects. -/
inductive AObj where
  | cells (t : TypeId) (cs : List AV)
  | tok (t : TypeId) (k n : Nat)
  | row (t : TypeId) (k n : Nat) (cs : List AV)
  | map (es : List (Nat × AV × AV)) (clock : Nat)
  | iter (m : Option Nat) (since : Nat) (seen : List Nat) (last : Nat)
  | dead

def entriesOK (G : Gh) : List (Nat × AV × AV) → List MapEntry → Prop
  | [], [] => True
  | (i, k, x) :: es, m :: ms => i = m.born ∧ Rv G k m.key ∧ Rv G x m.val ∧ entriesOK G es ms
  | _, _ => False

/-- The range of a row that strings share leaves the cells from number n on alone. -/
def frzOK (f : Nat × Nat) (n : Nat) : Prop := f.1 = f.2 ∨ f.2 ≤ n
def iterOK (G : Gh) : Option Nat → Option Nat → Prop
  | none, none => True
  | some m, some b => G.place m = some (b, 0)
  | _, _ => False

def RO (G : Gh) (W : World) (r : Nat) : AObj → Prop
  | .cells t cs => ∃ b vs, G.place r = some (b, 0) ∧ (∀ j, G.own b j = some (r, j)) ∧ RvL G cs vs ∧ W.heap[b]? = some (.cells vs.toArray t (0, 0))
  | .tok t k n => ∃ b cap c f, G.gen r n = some (b, cap) ∧ n ≤ cap ∧ (∀ m p, G.gen r m = some p → m ≤ n) ∧ (∀ j, n * k ≤ j → G.own b j = some (r, j)) ∧ W.heap[b]? = some (.cells c t f) ∧ c.size = cap * k ∧ frzOK f (n * k)
  | .row t k n cs => ∃ b cap, ∃ vs : List Value, ∃ c : Array Value, G.place r = some (b, 0) ∧ G.gen r 0 = some (b, cap) ∧ (∀ m p, G.gen r m = some p → m = 0) ∧ (∀ j, G.own b j = some (r, j)) ∧ RvL G cs vs ∧ vs.length = n * k ∧ n ≤ cap ∧ W.heap[b]? = some (.cells c t (0, 0)) ∧ c.size = cap * k ∧ ∀ (j : Nat) (v : Value), vs[j]? = some v → c[j]? = some v
  | .map es clock => ∃ b ms, G.place r = some (b, 0) ∧ (∀ j, G.own b j = some (r, j)) ∧ W.heap[b]? = some (.map ms clock) ∧ entriesOK G es ms.toList
  | .iter m since seen last => ∃ b bm, G.place r = some (b, 0) ∧ (∀ j, G.own b j = some (r, j)) ∧ iterOK G m bm ∧ W.heap[b]? = some (.mapIter bm since seen.toArray last)
  | .dead => True

theorem entriesOK.monoS {G G' : Gh} (h : G.sub G') : ∀ {es : List (Nat × AV × AV)} {ms : List MapEntry}, entriesOK G es ms → entriesOK G' es ms
  | [], [], _ => trivial
  | (_, _, _) :: _, _ :: _, ⟨h0, h1, h2, h3⟩ => ⟨h0, h1.monoS h, h2.monoS h, entriesOK.monoS h h3⟩
  | [], _ :: _, h => h.elim
  | _ :: _, [], h => h.elim
theorem iterOK.monoS {G G' : Gh} (h : G.sub G') : ∀ {m bm : Option Nat}, iterOK G m bm → iterOK G' m bm
  | none, none, _ => trivial
  | some _, some _, hp => h.place _ _ hp
  | none, some _, h => h.elim
  | some _, none, h => h.elim

/-- An object's description leans on its own blocks alone. -/
theorem RO.keep {G G' : Gh} {W W' : World} {r : Nat} {o : AObj} (hs : G.sub G') (hown : ∀ b i j, G.own b i = some (r, j) → G'.own b i = some (r, j)) (hgen : ∀ m p, G'.gen r m = some p → G.gen r m = some p)
    (hW : ∀ b i j, G.own b i = some (r, j) → W'.heap[b]? = W.heap[b]?) (h : RO G W r o) : RO G' W' r o := by
  cases o with
  | cells t cs =>
    obtain ⟨b, vs, h1, h2, h3, h4⟩ := h
    exact ⟨b, vs, hs.place _ _ h1, fun j => hown _ _ _ (h2 j), h3.monoS hs, (hW _ _ _ (h2 0)).trans h4⟩
  | tok t k n =>
    obtain ⟨b, cap, c, f, h1, h2, h3, h4, h5, h6, h7⟩ := h
    exact ⟨b, cap, c, f, hs.gen _ _ _ h1, h2, fun m p hm => h3 m p (hgen m p hm), fun j hj => hown _ _ _ (h4 j hj), (hW _ _ _ (h4 (n * k) (Nat.le_refl _))).trans h5, h6, h7⟩
  | row t k n cs =>
    obtain ⟨b, cap, vs, c, h1, h2, h3, h4, h5, h6, h7, h8, h9, h10⟩ := h
    exact ⟨b, cap, vs, c, hs.place _ _ h1, hs.gen _ _ _ h2, fun m p hm => h3 m p (hgen m p hm), fun j => hown _ _ _ (h4 j), h5.monoS hs, h6, h7, (hW _ _ _ (h4 0)).trans h8, h9, h10⟩
  | map es clock =>
    obtain ⟨b, ms, h1, h2, h3, h4⟩ := h
    exact ⟨b, ms, hs.place _ _ h1, fun j => hown _ _ _ (h2 j), (hW _ _ _ (h2 0)).trans h3, h4.monoS hs⟩
  | iter m since seen last =>
    obtain ⟨b, bm, h1, h2, h3, h4⟩ := h
    exact ⟨b, bm, hs.place _ _ h1, fun j => hown _ _ _ (h2 j), h3.monoS hs, (hW _ _ _ (h2 0)).trans h4⟩
  | dead => trivial

structure R [Tabs] (G : Gh) (H : List AObj) (W : World) : Prop where
  imm : ∀ b i v, G.imm b i = some v → W.cell? ⟨b, i, none⟩ = some v
  apart : ∀ b i, G.imm b i ≠ none → G.own b i = none
  own : ∀ b i, G.own b i ≠ none → ¬ G.kept b ∧ b < W.heap.size
  sep : ∀ b i i' p p', G.own b i = some p → G.own b i' = some p' → p.1 = p'.1
  dom : ∀ r p, G.place r = some p → r < H.length
  domg : ∀ g n p, G.gen g n = some p → g < H.length
  below : Keep G.kept G.w0 W
  base : ∀ k, G.kept k → k < G.w0.heap.size
  fixed : ∀ g, G.fixed g → H[g]? = some .dead
  obj : ∀ r o, H[r]? = some o → RO G W r o
  tab : (∀ k, k < Tabs.n → G.kept k) ∧ Tabs.ok G.w0

variable [Tabs]
theorem R.glob {G : Gh} {H : List AObj} {W : World} (r : R G H W) {k : Nat} (h : k < Tabs.n) : W.heap[k]? = G.w0.heap[k]? := r.below.block k (r.tab.1 k h)
theorem R.tabOK {G : Gh} {H : List AObj} {W : World} (r : R G H W) : Tabs.ok W := Tabs.stable _ _ (fun _ h => r.glob h) r.tab.2

/-- The blocks of two objects lie apart. -/
theorem R.ne_block {G : Gh} {H : List AObj} {W : World} (h : R G H W) {b b' i i' q k j j' : Nat} (h1 : G.own b i = some (q, j)) (h2 : G.own b' i' = some (k, j')) (hq : q ≠ k) : b ≠ b' := by
  rintro rfl
  exact hq (h.sep _ _ _ _ _ h1 h2)
theorem R.ownB {G : Gh} {H : List AObj} {W : World} (h : R G H W) {b i : Nat} {p : Nat × Nat} (h1 : G.own b i = some p) : ¬ G.kept b ∧ b < W.heap.size := h.own b i (by rw [h1]; simp)

theorem R.immB {G : Gh} {H : List AObj} {W : World} (h : R G H W) {b i : Nat} {v : Value} (hi : G.imm b i = some v) : b < W.heap.size :=
  World.block_lt_of_cell? W ⟨b, i, none⟩ (h.imm b i v hi)

end Go.Abs
