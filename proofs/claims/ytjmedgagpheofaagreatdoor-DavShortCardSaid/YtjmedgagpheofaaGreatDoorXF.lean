/- The abstract layer: what a call comes to where nothing is in the heap, it comes to anywhere, if its arguments and its answer refer to no object; facts as entries of a table. -/
import Derived.Test.YtjmedgagpheofaaGreatDoorXL
set_option linter.unusedSectionVars false
set_option linter.unusedVariables false
set_option linter.unusedSimpArgs false
set_option linter.constructorNameAsVariable false
namespace Go.Abs
open Go.RowKit
variable [Tabs]

section
variable {P : Program}
/-- The ghost state that sees no object. -/
def Gh.bare (G : Gh) (W : World) : Gh :=
  { place := fun _ => none, imm := G.imm, own := fun _ _ => none, gen := fun _ _ => none, kept := fun b => b < W.heap.size, fixed := fun _ => False, w0 := W }
theorem R.bare {G : Gh} {H : List AObj} {W : World} (r : R G H W) : R (G.bare W) [] W := by
  exact {
    imm := r.imm
    apart := fun b i _ => rfl
    own := fun b i h => absurd rfl h
    sep := fun b i i' p p' h => by cases h
    dom := fun q p h => by cases h
    domg := fun g n p h => by cases h
    below := Keep.refl _ _
    base := fun k hk => hk
    fixed := fun g h => False.elim h
    obj := fun q o h => by simp at h
    tab := ⟨fun k hk => r.kept_lt k (r.tab.1 k hk), r.tabOK⟩ }
/-- .. and all objects back. -/
def Gh.clothe (G G' : Gh) : Gh := { G' with place := G.place, own := G.own, gen := G.gen, kept := G.kept, fixed := G.fixed, w0 := G.w0 }
theorem R.clothe {G G' : Gh} {H : List AObj} {W W' : World} (r : R G H W) (hle : (G.bare W).le G') (r' : R G' [] W') : R (G.clothe G') H W' ∧ G.le (G.clothe G') := by
  have hk : G'.kept = fun b => b < W.heap.size := hle.kept
  have hw0 : G'.w0 = W := hle.w0
  have hblock : ∀ b, b < W.heap.size → W'.heap[b]? = W.heap[b]? := fun b hb => by
    rw [← hw0]; exact r'.below.block b (by rw [hk]; exact hb)
  have hsize : W.heap.size ≤ W'.heap.size := by rw [← hw0]; exact r'.below.size
  have hsub : G.sub (G.clothe G') := ⟨fun _ _ h => h, fun b i v h => hle.imm b i v h, fun _ _ _ h => h⟩
  have hleG : G.le (G.clothe G') := ⟨hsub, rfl, rfl, rfl, fun b i v h => by
    rcases hle.newimm b i v h with h | h
    · exact .inl h
    · exact .inr fun hb => h (r.kept_lt b hb), fun _ _ _ h => .inl h, fun _ _ h => .inl h⟩
  refine ⟨⟨r'.imm, fun b i h => ?_, fun b i h => ⟨(r.own b i h).1, Nat.lt_of_lt_of_le (r.own b i h).2 hsize⟩, r.sep, r.dom, r.domg, ?_, r.base, r.fixed, fun q o h => ?_, r.tab⟩, hleG⟩
  · show G.own b i = none
    cases hx : G.own b i with
    | none => rfl
    | some p =>
      cases hv : G'.imm b i with
      | none => exact absurd hv h
      | some v =>
        rcases hle.newimm b i v hv with h1 | h1
        · have := r.apart b i (by rw [show G.imm b i = some v from h1]; simp)
          rw [hx] at this; cases this
        · exact absurd (r.ownB hx).2 h1
  · refine ⟨?_, ?_, ?_, Nat.le_trans r.below.size hsize, fun k hk => (hblock k (r.kept_lt k hk)).trans (r.below.block k hk)⟩
    · rw [r'.below.os, hw0]; exact r.below.os
    · rw [r'.below.tape, hw0]; exact r.below.tape
    · rw [r'.below.output, hw0]; exact r.below.output
  · exact (r.obj q o h).keep hsub (fun _ _ _ h => h) (fun _ _ h => h) (fun b i j h => hblock b (r.ownB h).2)

theorem Pure.closed {f : FuncId} {args : List AV} {v : AV} (h : Pure P f args [] v) (ha : LoL 0 args) (hv : Lo 0 v) (H : List AObj) : Pure P f args H v := by
  refine ⟨fun G W vs hvs r => ?_⟩
  have h1 : RvL (G.bare W) args vs := (hvs.cut ha).monoS (show (G.cut 0).sub (G.bare W) from ⟨fun r p h => by simp [Gh.cut] at h, fun _ _ _ h => h, fun g n p h => by simp [Gh.cut] at h⟩)
  refine (h.out _ W vs h1 r.bare).mono ?_
  rintro e W' ⟨ae, H', G', ⟨rfl, rfl⟩, re, r', hle⟩
  obtain ⟨r2, hle2⟩ := r.clothe hle r'
  refine ⟨_, H, _, ⟨rfl, rfl⟩, ?_, r2, hle2⟩
  cases re with
  | ret hx => exact .ret ((hx.cut hv).monoS (show (G'.cut 0).sub (G.clothe G') from ⟨fun r p h => by simp [Gh.cut] at h, fun _ _ _ h => h, fun g n p h => by simp [Gh.cut] at h⟩))

/-! ### Tokens struck -/
mutual
def strip : AV → AV
  | .agg cs => .agg (stripL cs)
  | .tuple cs => .tuple (stripL cs)
  | .lst xs _ => .lst (stripL xs) none
  | .iface t a => .iface t (strip a)
  | a => a
def stripL : List AV → List AV
  | [] => []
  | a :: as => strip a :: stripL as
end
mutual
theorem strip_wk : ∀ a : AV, Wk a (strip a)
  | .agg cs => by rw [strip]; exact .agg (stripL_wk cs)
  | .tuple cs => by rw [strip]; exact .tuple (stripL_wk cs)
  | .lst xs _ => by rw [strip]; exact .lst (stripL_wk xs)
  | .iface t a => by rw [strip]; exact .iface (strip_wk a)
  | .bool b => by simp only [strip]; exact .refl _
  | .int k n => by simp only [strip]; exact .refl _
  | .str s => by simp only [strip]; exact .refl _
  | .nilp => by simp only [strip]; exact .refl _
  | .ptr r i => by simp only [strip]; exact .refl _
  | .iptr cs => by simp only [strip]; exact .refl _
  | .nils => by simp only [strip]; exact .refl _
  | .emp => by simp only [strip]; exact .refl _
  | .slc _ _ _ _ => by simp only [strip]; exact .refl _
  | .dptr _ _ => by simp only [strip]; exact .refl _
  | .func _ _ => by simp only [strip]; exact .refl _
  | .nilf => by simp only [strip]; exact .refl _
  | .nilm => by simp only [strip]; exact .refl _
  | .mapv _ => by simp only [strip]; exact .refl _
  | .nili => by simp only [strip]; exact .refl _
theorem stripL_wk : ∀ as : List AV, WkL as (stripL as)
  | [] => by rw [stripL]; exact .nil
  | a :: as => by rw [stripL]; exact .cons (strip_wk a) (stripL_wk as)
end

/-! ### Are two values the same? -/
def asBool : AV → Option Bool
  | .bool b => some b
  | _ => none
def asInt : AV → Option (IntKind × Int)
  | .int k n => some (k, n)
  | _ => none
def asStr : AV → Option Str
  | .str s => some s
  | _ => none
def asAgg : AV → Option (List AV)
  | .agg cs => some cs
  | _ => none
def asTuple : AV → Option (List AV)
  | .tuple cs => some cs
  | _ => none
def asLst : AV → Option (List AV)
  | .lst xs none => some xs
  | _ => none
def kindV : AV → Nat
  | .nils => 1
  | .nilp => 2
  | .nili => 3
  | _ => 0
theorem asBool_eq {a : AV} {b : Bool} (h : asBool a = some b) : a = .bool b := by cases a <;> simp [asBool] at h; rw [h]
theorem asInt_eq {a : AV} {b : IntKind × Int} (h : asInt a = some b) : a = .int b.1 b.2 := by cases a <;> simp [asInt] at h; rw [← h]
theorem asStr_eq {a : AV} {b : Str} (h : asStr a = some b) : a = .str b := by cases a <;> simp [asStr] at h; rw [h]
theorem asAgg_eq {a : AV} {b : List AV} (h : asAgg a = some b) : a = .agg b := by cases a <;> simp [asAgg] at h; rw [h]
theorem asTuple_eq {a : AV} {b : List AV} (h : asTuple a = some b) : a = .tuple b := by cases a <;> simp [asTuple] at h; rw [h]
theorem asLst_eq {a : AV} {b : List AV} (h : asLst a = some b) : a = .lst b none := by
  cases a <;> try (simp [asLst] at h; done)
  rename_i xs tok
  cases tok <;> simp [asLst] at h
  rw [h]
theorem kindV_eq {a b : AV} (h : Nat.beq (kindV a) (kindV b) = true) (h0 : kindV b ≠ 0) : a = b := by
  have h := Nat.eq_of_beq_eq_true h
  cases b <;> simp [kindV] at h0 h <;> cases a <;> simp [kindV] at h <;> rfl
mutual
def beqV : AV → AV → Bool
  | .bool a, b => match asBool b with | some c => a == c | none => false
  | .int k n, b => match asInt b with | some (k', n') => decide (k = k') && decide (n = n') | none => false
  | .str s, b => match asStr b with | some c => decide (s = c) | none => false
  | .agg cs, b => match asAgg b with | some ds => beqVL cs ds | none => false
  | .tuple cs, b => match asTuple b with | some ds => beqVL cs ds | none => false
  | .lst xs none, b => match asLst b with | some ds => beqVL xs ds | none => false
  | .nils, b => Nat.beq (kindV b) (kindV .nils)
  | .nilp, b => Nat.beq (kindV b) (kindV .nilp)
  | .nili, b => Nat.beq (kindV b) (kindV .nili)
  | _, _ => false
def beqVL : List AV → List AV → Bool
  | [], b => b.isEmpty
  | a :: as, b => match b with | c :: bs => beqV a c && beqVL as bs | [] => false
end
mutual
theorem beqV_eq : ∀ (a b : AV), beqV a b = true → a = b
  | .bool a, b, h => by
    simp only [beqV] at h
    split at h
    · rename_i c hc; rw [asBool_eq hc, beq_iff_eq.1 h]
    · cases h
  | .int k n, b, h => by
    simp only [beqV] at h
    split at h
    · rename_i k' n' hc
      simp only [Bool.and_eq_true, decide_eq_true_eq] at h
      rw [asInt_eq hc, h.1, h.2]
    · cases h
  | .str s, b, h => by
    simp only [beqV] at h
    split at h
    · rename_i c hc; rw [asStr_eq hc, of_decide_eq_true h]
    · cases h
  | .agg cs, b, h => by
    simp only [beqV] at h
    split at h
    · rename_i c hc; rw [asAgg_eq hc, beqVL_eq _ _ h]
    · cases h
  | .tuple cs, b, h => by
    simp only [beqV] at h
    split at h
    · rename_i c hc; rw [asTuple_eq hc, beqVL_eq _ _ h]
    · cases h
  | .lst xs none, b, h => by
    simp only [beqV] at h
    split at h
    · rename_i c hc; rw [asLst_eq hc, beqVL_eq _ _ h]
    · cases h
  | .lst xs (some g), b, h => by simp [beqV] at h
  | .nils, b, h => by rw [beqV] at h; exact (kindV_eq h (by simp [kindV])).symm
  | .nilp, b, h => by rw [beqV] at h; exact (kindV_eq h (by simp [kindV])).symm
  | .nili, b, h => by rw [beqV] at h; exact (kindV_eq h (by simp [kindV])).symm
  | .ptr _ _, b, h => by simp [beqV] at h
  | .iptr _, b, h => by simp [beqV] at h
  | .emp, b, h => by simp [beqV] at h
  | .slc _ _ _ _, b, h => by simp [beqV] at h
  | .dptr _ _, b, h => by simp [beqV] at h
  | .func _ _, b, h => by simp [beqV] at h
  | .nilf, b, h => by simp [beqV] at h
  | .nilm, b, h => by simp [beqV] at h
  | .mapv _, b, h => by simp [beqV] at h
  | .iface _ _, b, h => by simp [beqV] at h
theorem beqVL_eq : ∀ (as bs : List AV), beqVL as bs = true → as = bs
  | [], b, h => by
    simp only [beqVL] at h
    exact (List.isEmpty_iff.1 h).symm
  | a :: as, b, h => by
    simp only [beqVL] at h
    split at h
    · rename_i c bs
      rw [Bool.and_eq_true] at h
      rw [beqV_eq _ _ h.1, beqVL_eq _ _ h.2]
    · cases h
end

/-! ### Facts -/
structure Fact (P : Program) where
  f : FuncId
  as : List AV
  v : AV
  ok : ∀ H, Pure P f as H v
  ent : Ent P f
/-- A fact, by the run. -/
def runOK (P : Program) (T : CallF) (k : Nat) (f : FuncId) (as : List AV) (v : AV) : Bool :=
  match xCallB P (X P T k) f as [] with
  | some (.ret w, _, _) => beqV (strip w) v && loBL 0 as && loB 0 v
  | _ => false
theorem fact_ok (hent : EntAll P) (hmo : P.follows .mixedOrders = true) {T : CallF} (hT : CallHyp P T) {k : Nat} {f : FuncId} {as : List AV} {v : AV} (h : runOK P T k f as v = true) : (∀ H, Pure P f as H v) ∧ Ent P f := by
  unfold runOK at h
  split at h
  · rename_i w H' low hr
    simp only [Bool.and_eq_true] at h
    have hv := beqV_eq _ _ h.1.1
    subst hv
    have hlo := loB_ok h.2
    have hb := xCallB_ok hent (X_ok hent hmo hT k) hr
    obtain ⟨fn, hf, hbody⟩ := hb.2
    have hc := (hb.1 _ _ _ rfl).2
    have h1 : CallsA P f as [] fun e H2 => e = .ret (strip w) ∧ H2 = H' := CallsA.wk (hc.mono fun e H2 ⟨he, hH⟩ => ⟨w, strip w, he, strip_wk w, rfl, hH⟩)
    have h2 : Pure P f as [] (strip w) := CallsA.drop (h1.mono fun e H2 ⟨he, hH⟩ => ⟨[], H2, rfl, rfl, (fun o ho => by cases ho), ⟨he, rfl⟩, (by subst he; exact hlo)⟩)
    exact ⟨Pure.closed h2 (loBL_ok h.1.2).1 hlo, hent _ _ hf hbody⟩
  · cases h
def factRun {P : Program} : List (Fact P) → FuncId → List AV → Option AV
  | [], _, _ => none
  | x :: xs, f, as => bif Nat.beq x.f f && beqVL x.as as then some x.v else factRun xs f as
theorem factRun_ok : ∀ {xs : List (Fact P)} {f : FuncId} {as : List AV} {v : AV}, factRun xs f as = some v → (∀ H, Pure P f as H v) ∧ Ent P f
  | [], _, _, _, h => by simp [factRun] at h
  | x :: xs, f, as, v, h => by
    simp only [factRun] at h
    cases hb : (Nat.beq x.f f && beqVL x.as as) with
    | true =>
      rw [hb] at h
      simp only [cond_true, Option.some.injEq] at h
      rw [Bool.and_eq_true] at hb
      have h1 := Nat.eq_of_beq_eq_true hb.1
      have h2 := beqVL_eq _ _ hb.2
      subst h1 h2 h
      exact ⟨x.ok, x.ent⟩
    | false => rw [hb] at h; exact factRun_ok h
/-- A table with facts ahead. -/
def factT {P : Program} (xs : List (Fact P)) (T : CallF) : CallF := fun f as H => match factRun xs f as with
  | some v => some (.ret v, H, inf)
  | none => T f as H
theorem factT_ok {xs : List (Fact P)} {T : CallF} (hT : CallHyp P T) : CallHyp P (factT xs T) := by
  refine ⟨fun f as H e H' low h => ?_⟩
  unfold factT at h
  split at h
  · rename_i v hv
    simp only [Option.some.injEq, Prod.mk.injEq] at h
    obtain ⟨rfl, rfl, rfl⟩ := h
    obtain ⟨h1, h2⟩ := factRun_ok hv
    exact ⟨Same.refl _, .inl ⟨h2, h1 H⟩⟩
  · exact hT.ok _ _ _ _ _ _ h
end
end Go.Abs
