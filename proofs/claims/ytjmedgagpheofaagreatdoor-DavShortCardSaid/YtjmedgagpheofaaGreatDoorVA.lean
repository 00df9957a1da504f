/- Conditions of a symbolic run: operations that read no object, append. -/
import Derived.Test.YtjmedgagpheofaaGreatDoorVO
set_option linter.unusedSectionVars false
set_option linter.unusedVariables false
set_option linter.unusedSimpArgs false
set_option linter.constructorNameAsVariable false
namespace Go.Abs
open Go.RowKit
variable [Tabs]

/-- A condition, or none. -/
abbrev Cd := Option Prop
@[reducible] def Cd.holds : Cd → Prop
  | none => True
  | some c => c
@[reducible] def Cd.and : Cd → Prop → Prop
  | none, p => p
  | some c, p => c ∧ p
theorem Cd.and_ok {c : Cd} {p : Prop} (h : Cd.and c p) : Cd.holds c ∧ p := by cases c with
  | none => exact ⟨trivial, h⟩
  | some c => exact h

def cellsK (k : Nat) (xs : List AV) : Prop := ∀ x ∈ xs, x.cells.length = k
def onesK (xs : List AV) : Prop := (xs.flatMap AV.cells).all AV.one = true
@[simp] theorem cellsK_nil (k : Nat) : cellsK k [] = True := by simp [cellsK]
@[simp] theorem cellsK_cons (k : Nat) (x : AV) (xs : List AV) : cellsK k (x :: xs) = (x.cells.length = k ∧ cellsK k xs) := by simp [cellsK]
@[simp] theorem cellsK_append (k : Nat) (xs ys : List AV) : cellsK k (xs ++ ys) = (cellsK k xs ∧ cellsK k ys) := by
  simp only [cellsK, List.mem_append, eq_iff_iff]
  exact ⟨fun h => ⟨fun x hx => h x (.inl hx), fun x hx => h x (.inr hx)⟩, fun ⟨h1, h2⟩ x hx => hx.elim (h1 x) (h2 x)⟩
@[simp] theorem cellsK_bytes (s : Str) : cellsK 1 (bytesA s) = True := by
  simp only [cellsK, eq_iff_iff, iff_true]
  intro x hx
  obtain ⟨c, _, rfl⟩ := List.mem_map.1 hx
  rfl
@[simp] theorem onesK_nil : onesK [] = True := by simp [onesK]
@[simp] theorem onesK_cons (x : AV) (xs : List AV) : onesK (x :: xs) = (x.cells.all AV.one = true ∧ onesK xs) := by simp [onesK]
@[simp] theorem onesK_append (xs ys : List AV) : onesK (xs ++ ys) = (onesK xs ∧ onesK ys) := by simp [onesK]
def vBin (P : Program) (op : BinOp) (t : TypeId) (a : AV) (y : Operand) (b : Option AV) : Option (Cd × AV) :=
  match a, b with
  | .str l, some (.str m) => match op with
    | .add => some (some (l.length + m.length ≤ 9223372036854775807), .str (l ++ m))
    | _ => match evalBin op (.str l) (.str m) with
      | some v => some (none, v)
      | none => none
  | .int k i, some (.int k' j) => match evalBin op (.int k i) (.int k' j) with
    | some v => some (none, v)
    | none => match evalInt op k i k' j with
      | some v => some (none, v)
      | none => none
  | .bool x, some (.bool z) => match xBool P op t x z with
    | some v => some (none, v)
    | none => none
  | .agg [.str a, .str b], some (.agg [.str c, .str d]) => bif eq2T P t then (match op with
    | .eql => some (none, .bool (a == c && b == d))
    | .neq => some (none, .bool (!(a == c && b == d)))
    | _ => none) else none
  | a, _ => match xNil P op t a y with
    | some v => some (none, v)
    | none => none

def vInt (E : Env) (x : Operand) : Option Int := match evE E x with
  | some (.int _ i) => some i
  | _ => none
def vSlice (P : Program) (E : Env) (t : TypeId) (x : AV) (lo hi : Option Operand) : Option (Cd × AV) :=
  match x with
  | .str l => match P.underlying t with
    | some .string => match lo, hi with
      | none, some z => match vInt E z with
        | some b => some (some (0 ≤ b ∧ b.toNat ≤ l.length), .str (l.take b.toNat))
        | none => none
      | some y, none => match vInt E y with
        | some a => some (some (0 ≤ a ∧ a.toNat ≤ l.length), .str (l.drop a.toNat))
        | none => none
      | some y, some z => match vInt E y, vInt E z with
        | some a, some b => some (some (0 ≤ a ∧ a ≤ b ∧ b.toNat ≤ l.length), .str ((l.drop a.toNat).take (b.toNat - a.toNat)))
        | _, _ => none
      | none, none => none
    | _ => none
  | .lst xs _ => match P.underlying t with
    | some (.slice e) => match xTy P e with
      | some (_, k) => match lo, hi with
        | none, some z => match vInt E z with
          | some b => some (some (0 ≤ b ∧ b.toNat ≤ xs.length ∧ cellsK k xs), .lst (xs.take b.toNat) none)
          | none => none
        | some y, none => match vInt E y with
          | some a => some (some (0 ≤ a ∧ a.toNat ≤ xs.length ∧ cellsK k xs), .lst (xs.drop a.toNat) none)
          | none => none
        | some y, some z => match vInt E y, vInt E z with
          | some a, some b => some (some (0 ≤ a ∧ a ≤ b ∧ b.toNat ≤ xs.length ∧ cellsK k xs), .lst ((xs.drop a.toNat).take (b.toNat - a.toNat)) none)
          | _, _ => none
        | none, none => none
      | none => none
    | _ => none
  | _ => none
def vConv (P : Program) (t u : TypeId) (x : AV) : Option (Cd × AV) :=
  match x with
  | .str l => match P.underlying t, P.underlying u with
    | some .string, some .string => some (none, .str l)
    | some .string, some (.slice e) => match P.underlying e with
      | some (.int .u8) => some (none, .lst (bytesA l) none)
      | _ => none
    | _, _ => none
  | .int _ i => match P.underlying t, P.underlying u with
    | some (.int _), some (.int k) => some (none, .int k (k.wrap i))
    | _, _ => none
  | .lst xs _ => match P.underlying t, P.underlying u with
    | some (.slice e), some .string => match P.underlying e with
      | some (.int .u8) => some (some ((unbytes xs).isSome = true), .str ((unbytes xs).getD []))
      | _ => none
    | _, _ => none
  | .nils => match xConv P t u .nils with
    | some v => some (none, v)
    | none => none
  | _ => none
def vIndex (P : Program) (t : TypeId) (x : AV) (i : AV) : Option (Cd × AV) :=
  match x, i with
  | .str l, .int _ n => match P.underlying t with
    | some .string => some (some (0 ≤ n ∧ n.toNat < l.length), .int .u8 (l.getD n.toNat 0).toNat)
    | _ => none
  | _, _ => none
def vIndexAddr (P : Program) (t : TypeId) (x : AV) (i : AV) : Option (Cd × AV) :=
  match x, i with
  | .lst xs _, .int _ n => match P.underlying t with
    | some (.slice e) => match xTy P e with
      | some (_, k) => some (some (0 ≤ n ∧ n.toNat < xs.length ∧ (xs.getD n.toNat .nils).cells.length = k), .iptr (xs.getD n.toNat .nils).cells)
      | none => none
    | _ => none
  | _, _ => none
def vPure (P : Program) (E : Env) : Op → Option (Cd × AV)
  | .binOp op t x y _ => match evE E x with
    | some a => vBin P op t a y (evE E y)
    | none => none
  | .convert t u x => match evE E x with
    | some v => vConv P t u v
    | none => none
  | .slice t x lo hi none => match evE E x with
    | some v => vSlice P E t v lo hi
    | none => none
  | .index t x y => match evE E x, evE E y with
    | some v, some i => vIndex P t v i
    | _, _ => none
  | .indexAddr t x y => match evE E x, evE E y with
    | some v, some i => vIndexAddr P t v i
    | _, _ => none
  | .buildSlice t len parts => match xBuildSlice P E t len parts.toList with
    | some w => some (none, w)
    | none => none
  | .call { callee := .builtin .len, args := xs, argTypes := ts } => match xs.toList, ts.toList with
    | [x], [t] => match evE E x with
      | some v => match xLen P t v with
        | some w => some (none, w)
        | none => none
      | none => none
    | _, _ => none
  | op => match xPure P E op with
    | some v => some (none, v)
    | none => none

section
variable {P : Program} {Q : APost} {s : ASt} {N : ASt → Prop} {o : Oper} {E : Env}

theorem vBin_ok {op : BinOp} {t u : TypeId} {x y : Operand} {a v : AV} {b : Option AV} {c : Cd} (ho : o.op = .binOp op t x y u) (hd : dstOK o.dst s.n = true) (hx : s.ev x = some a) (hy : ∀ b', b = some b' → s.ev y = some b') (h : vBin P op t a y b = some (c, v)) (hc : c.holds) (hN : N (s.put o.dst v)) : AOp P o N Q s := by
  unfold vBin at h
  split at h
  · have hy := hy _ rfl
    split at h
    · simp only [Option.some.injEq, Prod.mk.injEq] at h
      obtain ⟨rfl, rfl⟩ := h
      exact op_cat ho hd hx hy hc hN
    · split at h <;> simp only [Option.some.injEq, Prod.mk.injEq, reduceCtorEq] at h
      rename_i hb
      obtain ⟨rfl, rfl⟩ := h
      exact op_bin ho hd hx hy hb hN
  · rename_i k i k' j
    split at h
    · rename_i hb
      simp only [Option.some.injEq, Prod.mk.injEq] at h
      obtain ⟨rfl, rfl⟩ := h
      exact op_bin ho hd hx (hy _ rfl) hb hN
    · rename_i hb1
      split at h <;> simp only [Option.some.injEq, Prod.mk.injEq, reduceCtorEq] at h
      rename_i hb
      obtain ⟨rfl, rfl⟩ := h
      refine xBin_ok (b := some (.int k' j)) ho hd hx hy ?_ hN
      simp only [xBin, hb1, hb]
  · rename_i xb z
    split at h <;> simp only [Option.some.injEq, Prod.mk.injEq, reduceCtorEq] at h
    rename_i hb
    obtain ⟨rfl, rfl⟩ := h
    exact xBin_ok (b := some (.bool z)) ho hd hx hy (by simp only [xBin, hb]) hN
  · replace h := bif_some h
    obtain ⟨h2, h⟩ := h
    split at h <;> simp only [Option.some.injEq, Prod.mk.injEq, reduceCtorEq] at h
    · obtain ⟨rfl, rfl⟩ := h
      exact op_eq2 ho hd h2 hx (hy _ rfl) (.inl ⟨rfl, rfl⟩) hN
    · obtain ⟨rfl, rfl⟩ := h
      exact op_eq2 ho hd h2 hx (hy _ rfl) (.inr ⟨rfl, rfl⟩) hN
  · split at h <;> simp only [Option.some.injEq, Prod.mk.injEq, reduceCtorEq] at h
    rename_i hb
    obtain ⟨rfl, rfl⟩ := h
    exact xNil_ok ho hd hx hb hN

theorem vInt_ev (hE : Ext E s) {x : Operand} {i : Int} (h : vInt E x = some i) : ∃ k, s.ev x = some (.int k i) := by
  unfold vInt at h
  split at h
  · rename_i k j hx
    simp only [Option.some.injEq] at h; subst h
    exact ⟨k, evE_ev hE hx⟩
  · simp at h
theorem toNat_ev {x : Operand} {k : IntKind} {i : Int} (h : s.ev x = some (.int k i)) (h0 : 0 ≤ i) : s.ev x = some (.int k (i.toNat : Nat)) := by
  rw [h, Int.toNat_of_nonneg h0]
theorem vSlice_ok (hE : Ext E s) {t : TypeId} {x : Operand} {lo hi : Option Operand} {v w : AV} {c : Cd} (ho : o.op = .slice t x lo hi none) (hd : dstOK o.dst s.n = true) (hx : s.ev x = some v) (h : vSlice P E t v lo hi = some (c, w)) (hc : c.holds) (hN : N (s.put o.dst w)) : AOp P o N Q s := by
  unfold vSlice at h
  split at h
  · rename_i l
    split at h
    · rename_i ht
      split at h
      · split at h <;> simp only [Option.some.injEq, Prod.mk.injEq, reduceCtorEq] at h
        rename_i b hb
        obtain ⟨rfl, rfl⟩ := h
        obtain ⟨k, hz⟩ := vInt_ev hE hb
        exact op_slice_s0 ho hd ht hx (toNat_ev hz hc.1) hc.2 hN
      · split at h <;> simp only [Option.some.injEq, Prod.mk.injEq, reduceCtorEq] at h
        rename_i b hb
        obtain ⟨rfl, rfl⟩ := h
        obtain ⟨k, hz⟩ := vInt_ev hE hb
        exact op_slice_s1 ho hd ht hx (toNat_ev hz hc.1) hc.2 hN
      · split at h <;> simp only [Option.some.injEq, Prod.mk.injEq, reduceCtorEq] at h
        rename_i a b ha hb
        obtain ⟨rfl, rfl⟩ := h
        obtain ⟨k, hy⟩ := vInt_ev hE ha
        obtain ⟨k', hz⟩ := vInt_ev hE hb
        obtain ⟨h0, h1, h2⟩ := hc
        exact op_slice_s2 ho hd ht hx (toNat_ev hy h0) (toNat_ev hz (by omega)) (by omega) h2 hN
      · simp at h
    · simp at h
  · rename_i xs tok
    split at h
    · rename_i e ht
      split at h
      · rename_i agg k hk
        split at h
        · split at h <;> simp only [Option.some.injEq, Prod.mk.injEq, reduceCtorEq] at h
          rename_i b hb
          obtain ⟨rfl, rfl⟩ := h
          obtain ⟨k', hz⟩ := vInt_ev hE hb
          exact op_slice_l (a := 0) (b := b.toNat) ho hd ht (xTy_ok hk) hx (.inl ⟨rfl, rfl⟩) (.inr ⟨_, _, rfl, toNat_ev hz hc.1⟩) (Nat.zero_le _) hc.2.1 hc.2.2 (by simpa using hN)
        · split at h <;> simp only [Option.some.injEq, Prod.mk.injEq, reduceCtorEq] at h
          rename_i b hb
          obtain ⟨rfl, rfl⟩ := h
          obtain ⟨k', hz⟩ := vInt_ev hE hb
          exact op_slice_l (a := b.toNat) (b := xs.length) ho hd ht (xTy_ok hk) hx (.inr ⟨_, _, rfl, toNat_ev hz hc.1⟩) (.inl ⟨rfl, rfl⟩) hc.2.1 (Nat.le_refl _) hc.2.2 (by rw [List.take_of_length_le (by simp)]; exact hN)
        · split at h <;> simp only [Option.some.injEq, Prod.mk.injEq, reduceCtorEq] at h
          rename_i a b ha hb
          obtain ⟨rfl, rfl⟩ := h
          obtain ⟨k, hy⟩ := vInt_ev hE ha
          obtain ⟨k', hz⟩ := vInt_ev hE hb
          obtain ⟨h0, h1, h2, h3⟩ := hc
          exact op_slice_l (a := a.toNat) (b := b.toNat) ho hd ht (xTy_ok hk) hx (.inr ⟨_, _, rfl, toNat_ev hy h0⟩) (.inr ⟨_, _, rfl, toNat_ev hz (by omega)⟩) (by omega) h2 h3 hN
        · simp at h
      · simp at h
    · simp at h
  · simp at h
theorem vConv_ok {t u : TypeId} {x : Operand} {v w : AV} {c : Cd} (ho : o.op = .convert t u x) (hd : dstOK o.dst s.n = true) (hx : s.ev x = some v) (h : vConv P t u v = some (c, w)) (hc : c.holds) (hN : N (s.put o.dst w)) : AOp P o N Q s := by
  unfold vConv at h
  split at h
  · split at h
    · rename_i h1 h2
      simp only [Option.some.injEq, Prod.mk.injEq] at h
      obtain ⟨rfl, rfl⟩ := h
      exact op_conv_s ho hd h1 h2 hx hN
    · rename_i h1 h2
      split at h <;> simp only [Option.some.injEq, Prod.mk.injEq, reduceCtorEq] at h
      rename_i h3
      obtain ⟨rfl, rfl⟩ := h
      exact op_bytes ho hd h1 h2 h3 hx hN
    · simp at h
  · split at h <;> simp only [Option.some.injEq, Prod.mk.injEq, reduceCtorEq] at h
    rename_i h1 h2
    obtain ⟨rfl, rfl⟩ := h
    exact op_conv_i ho hd h1 h2 hx hN
  · split at h
    · rename_i h1 h2
      split at h <;> simp only [Option.some.injEq, Prod.mk.injEq, reduceCtorEq] at h
      rename_i h3
      obtain ⟨rfl, rfl⟩ := h
      obtain ⟨l, hl⟩ := Option.isSome_iff_exists.1 hc
      rw [hl] at hN
      exact op_string ho hd h1 h3 h2 hx (unbytes_eq hl) hN
    · simp at h
  · split at h <;> simp only [Option.some.injEq, Prod.mk.injEq, reduceCtorEq] at h
    rename_i hv
    obtain ⟨rfl, rfl⟩ := h
    exact xConv_ok ho hd hx hv hN
  · simp at h
theorem vIndex_ok {t : TypeId} {x y : Operand} {v i w : AV} {c : Cd} (ho : o.op = .index t x y) (hd : dstOK o.dst s.n = true) (hx : s.ev x = some v) (hy : s.ev y = some i) (h : vIndex P t v i = some (c, w)) (hc : c.holds) (hN : N (s.put o.dst w)) : AOp P o N Q s := by
  unfold vIndex at h
  split at h
  · rename_i l k n
    split at h <;> simp only [Option.some.injEq, Prod.mk.injEq, reduceCtorEq] at h
    rename_i ht
    obtain ⟨rfl, rfl⟩ := h
    refine op_index_s ho hd ht hx hy hc.1 ?_ hN
    rw [List.getElem?_eq_getElem hc.2]
    simp [List.getD_eq_getElem?_getD, List.getElem?_eq_getElem hc.2]
  · simp at h
theorem vIndexAddr_ok {t : TypeId} {x y : Operand} {v i w : AV} {c : Cd} (ho : o.op = .indexAddr t x y) (hd : dstOK o.dst s.n = true) (hx : s.ev x = some v) (hy : s.ev y = some i) (h : vIndexAddr P t v i = some (c, w)) (hc : c.holds) (hN : N (s.put o.dst w)) : AOp P o N Q s := by
  unfold vIndexAddr at h
  split at h
  · rename_i xs tok k n
    split at h
    · rename_i e ht
      split at h <;> simp only [Option.some.injEq, Prod.mk.injEq, reduceCtorEq] at h
      rename_i hk
      obtain ⟨rfl, rfl⟩ := h
      obtain ⟨h0, h1, h2⟩ := hc
      refine op_indexaddr (v := xs.getD n.toNat .nils) ho hd ht (xTy_ok hk) hx (toNat_ev hy h0) ?_ h2 hN
      simp [List.getD_eq_getElem?_getD, List.getElem?_eq_getElem h1]
    · simp at h
  · simp at h
theorem vPure_ok {op : Op} {v : AV} {c : Cd} (hop : o.op = op) (h : vPure P E op = some (c, v)) (hc : c.holds) (hE : Ext E s) (hd : dstOK o.dst s.n = true) (hN : N (s.put o.dst v)) : AOp P o N Q s := by
  unfold vPure at h
  split at h
  · split at h
    · rename_i hx
      exact vBin_ok hop hd (evE_ev hE hx) (fun b' hb' => evE_ev hE hb') h hc hN
    · simp at h
  · split at h
    · rename_i hx
      exact vConv_ok hop hd (evE_ev hE hx) h hc hN
    · simp at h
  · split at h
    · rename_i hx
      exact vSlice_ok hE hop hd (evE_ev hE hx) h hc hN
    · simp at h
  · split at h
    · rename_i hx hy
      exact vIndex_ok hop hd (evE_ev hE hx) (evE_ev hE hy) h hc hN
    · simp at h
  · split at h
    · rename_i hx hy
      exact vIndexAddr_ok hop hd (evE_ev hE hx) (evE_ev hE hy) h hc hN
    · simp at h
  · split at h <;> simp only [Option.some.injEq, Prod.mk.injEq, reduceCtorEq] at h
    rename_i hw
    obtain ⟨rfl, rfl⟩ := h
    exact xBuildSlice_ok hE hop hd hw hN
  · rename_i xs ts
    split at h
    · rename_i x t hxs hts
      have e1 : xs = #[x] := by apply Array.ext'; simpa using hxs
      have e2 : ts = #[t] := by apply Array.ext'; simpa using hts
      subst e1 e2
      split at h
      · rename_i hx
        split at h <;> simp only [Option.some.injEq, Prod.mk.injEq, reduceCtorEq] at h
        rename_i hw
        obtain ⟨rfl, rfl⟩ := h
        exact xLen_ok hop hd (evE_ev hE hx) hw hN
      · simp at h
    · simp at h
  · split at h <;> simp only [Option.some.injEq, Prod.mk.injEq, reduceCtorEq] at h
    rename_i hw
    obtain ⟨rfl, rfl⟩ := h
    exact xPure_ok hop hw hE hd hN
end

/-! ### Append -/
def vSrc (P : Program) (tx : TypeId) (k : Nat) : AV → Option (Cd × List AV)
  | .lst ys _ => match P.underlying tx with
    | some (.slice _) => some (some (cellsK k ys ∧ onesK ys), ys)
    | _ => none
  | .nils => match P.underlying tx with
    | some (.slice _) => some (none, [])
    | _ => none
  | .str l => match P.underlying tx with
    | some .string => bif Nat.beq k 1 then some (none, bytesA l) else none
    | _ => none
  | _ => none
theorem bytesA_one (l : Str) : ((bytesA l).flatMap AV.cells).all AV.one = true := by
  rw [List.all_eq_true]
  intro x hx
  obtain ⟨y, hy, hx⟩ := List.mem_flatMap.1 hx
  obtain ⟨c, _, rfl⟩ := List.mem_map.1 hy
  simp only [AV.cells, List.mem_singleton] at hx
  subst hx; rfl
theorem vSrc_ok {P : Program} {tx : TypeId} {k : Nat} {a : AV} {ys : List AV} {c : Cd} (h : vSrc P tx k a = some (c, ys)) (hc : c.holds) : SrcOf a ys ∧ (∃ e', P.underlying tx = some (.slice e') ∨ (P.underlying tx = some .string ∧ k = 1)) ∧ (∀ l, a = .str l → P.underlying tx = some .string ∧ k = 1) ∧ (∃ e', (∀ l, a ≠ .str l) → P.underlying tx = some (.slice e')) ∧ (∀ y ∈ ys, y.cells.length = k) ∧ (ys.flatMap AV.cells).all AV.one = true := by
  unfold vSrc at h
  split at h
  · split at h <;> simp only [Option.some.injEq, Prod.mk.injEq, reduceCtorEq] at h
    rename_i e he
    obtain ⟨rfl, rfl⟩ := h
    exact ⟨.lst _ _, ⟨e, .inl he⟩, by simp, ⟨e, fun _ => he⟩, hc.1, hc.2⟩
  · split at h <;> simp only [Option.some.injEq, Prod.mk.injEq, reduceCtorEq] at h
    rename_i e he
    obtain ⟨rfl, rfl⟩ := h
    exact ⟨.nils, ⟨e, .inl he⟩, by simp, ⟨e, fun _ => he⟩, by simp, by simp⟩
  · rename_i l
    split at h
    · rename_i he
      cases hb : Nat.beq k 1 with
      | false => rw [hb] at h; simp at h
      | true =>
        rw [hb] at h
        simp only [cond_true, Option.some.injEq, Prod.mk.injEq] at h
        obtain ⟨rfl, rfl⟩ := h
        have hk := Nat.eq_of_beq_eq_true hb
        refine ⟨.str _, ⟨0, .inr ⟨he, hk⟩⟩, fun _ _ => ⟨he, hk⟩, ⟨0, fun h => absurd rfl (h _)⟩, fun y hy => ?_, bytesA_one l⟩
        obtain ⟨c, _, rfl⟩ := List.mem_map.1 hy
        rw [hk]; rfl
    · simp at h
  · simp at h
def vAppendG (P : Program) (H : List AObj) (t tx : TypeId) (x y : AV) : Option (Prop × AV × List AObj) :=
  match P.underlying t with
  | some (.slice e) => match xEl P e with
    | some (k, bytes) => bif Nat.ble 1 bytes && Nat.ble 1 k then (match vSrc P tx k y with
      | some (c, ys) => match x with
        | .lst xs (some g) => match H[g]? with
          | some (.tok t' k' n) => bif Nat.beq t' e && Nat.beq k' k then (match force (H.set g (.tok e k (xs.length + ys.length))) with
            | some H' => some (c.and (n = xs.length ∧ cellsK k xs ∧ (xs.length + ys.length) * bytes ≤ 140737488355328), .lst (xs ++ ys) (some g), H')
            | none => none) else none
          | _ => none
        | .nils => match force (H ++ [.tok e k ys.length]) with
            | some H' => some (c.and (0 < ys.length ∧ ys.length * bytes ≤ 140737488355328), .lst ys (some H.length), H')
            | none => none
        | _ => none
      | none => none) else none
    | none => none
  | _ => none
def vAppend (P : Program) (H : List AObj) (t tx : TypeId) (x y : AV) : Option (Prop × AV × List AObj) :=
  match x, y with
  | .lst xs tok, .nils => match P.underlying t with
    | some (.slice e) => match xEl P e, P.underlying tx with
      | some _, some (.slice _) => some (0 < xs.length, .lst xs tok, H)
      | _, _ => none
    | _ => none
  | x, y => vAppendG P H t tx x y
theorem vAppendG_ok {P : Program} {Q : APost} {s : ASt} {N : ASt → Prop} {o : Oper} {t tx : TypeId} {x y : Operand} {a b v : AV} {c : Prop} {H' : List AObj} (ho : o.op = .call { callee := .builtin .append, args := #[x, y], argTypes := #[t, tx] }) (hd : dstOK o.dst s.n = true) (hx : s.ev x = some a) (hy : s.ev y = some b) (h : vAppendG P s.H t tx a b = some (c, v, H')) (hc : c) (hN : N (ASt.put { s with H := H' } o.dst v)) : AOp P o N Q s := by
  unfold vAppendG at h
  split at h
  · rename_i e ht
    split at h
    · rename_i k bytes he
      obtain ⟨hb, h⟩ := bif_some h
      simp only [Bool.and_eq_true] at hb
      have hb1 := Nat.le_of_ble_eq_true hb.1
      have hb2 := Nat.le_of_ble_eq_true hb.2
      have hel : elI P e k bytes = true := by
        unfold xEl at he
        split at he
        · rename_i i hi
          obtain ⟨h1, he⟩ := bif_some he
          simp only [Option.some.injEq, Prod.mk.injEq] at he
          obtain ⟨rfl, rfl⟩ := he
          exact h1
        · simp at he
      split at h
      · rename_i cs ys hsrc
        split at h
        · rename_i xs g
          split at h
          · rename_i t' k' n hg
            obtain ⟨hb3, h⟩ := bif_some h
            simp only [Bool.and_eq_true] at hb3
            have e1 := Nat.eq_of_beq_eq_true hb3.1
            have e2 := Nat.eq_of_beq_eq_true hb3.2
            subst e1 e2
            split at h
            · rename_i K hK
              have hK := force_eq hK
              simp only [Option.some.injEq, Prod.mk.injEq] at h
              obtain ⟨rfl, rfl, rfl⟩ := h
              obtain ⟨hc1, rfl, hc3, hc4⟩ := Cd.and_ok hc
              obtain ⟨h1, ⟨_, h2⟩, h3, ⟨_, h4⟩, h5, h6⟩ := vSrc_ok hsrc hc1
              cases b with
              | str l => exact op_append (e' := 0) ho hd ht hel (decide_eq_true hb2) (.inr (h3 l rfl)) h3 (fun h => absurd rfl (h l)) hx hy h1 hg hc3 h5 h6 hc4 (decide_eq_true hb1) (by rw [hK]; exact hN)
              | _ => exact op_append ho hd ht hel (decide_eq_true hb2) (.inl (h4 (by simp))) h3 h4 hx hy h1 hg hc3 h5 h6 hc4 (decide_eq_true hb1) (by rw [hK]; exact hN)
            · simp at h
          · simp at h
        · split at h
          · rename_i K hK
            have hK := force_eq hK
            simp only [Option.some.injEq, Prod.mk.injEq] at h
            obtain ⟨rfl, rfl, rfl⟩ := h
            obtain ⟨hc1, hc2, hc3⟩ := Cd.and_ok hc
            obtain ⟨h1, ⟨_, h2⟩, h3, ⟨_, h4⟩, h5, h6⟩ := vSrc_ok hsrc hc1
            cases b with
            | str l => exact op_append_nil (e' := 0) ho hd ht hel (.inr (h3 l rfl)) h3 (fun h => absurd rfl (h l)) hx hy h1 hc2 h5 h6 hc3 (decide_eq_true hb1) (by rw [hK]; exact hN)
            | _ => exact op_append_nil ho hd ht hel (.inl (h4 (by simp))) h3 h4 hx hy h1 hc2 h5 h6 hc3 (decide_eq_true hb1) (by rw [hK]; exact hN)
          · simp at h
        · simp at h
      · simp at h
    · simp at h
  · simp at h
theorem vAppend_ok {P : Program} {Q : APost} {s : ASt} {N : ASt → Prop} {o : Oper} {t tx : TypeId} {x y : Operand} {a b v : AV} {c : Prop} {H' : List AObj} (ho : o.op = .call { callee := .builtin .append, args := #[x, y], argTypes := #[t, tx] }) (hd : dstOK o.dst s.n = true) (hx : s.ev x = some a) (hy : s.ev y = some b) (h : vAppend P s.H t tx a b = some (c, v, H')) (hc : c) (hN : N (ASt.put { s with H := H' } o.dst v)) : AOp P o N Q s := by
  unfold vAppend at h
  split at h
  · split at h
    · rename_i ht
      split at h <;> simp only [Option.some.injEq, Prod.mk.injEq, reduceCtorEq] at h
      rename_i p _ he htx
      obtain ⟨rfl, rfl, rfl⟩ := h
      exact op_append_zero ho hd ht (xEl_ok (k := p.1) (bytes := p.2) he) htx hc hx hy hN
    · simp at h
  · exact vAppendG_ok ho hd hx hy h hc hN
end Go.Abs
