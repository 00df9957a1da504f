/- The abstract layer, made to run: the other operations that read no object. -/
import Derived.Test.YtjmedgagpheofaaGreatDoorX4
set_option linter.unusedSectionVars false
set_option linter.unusedVariables false
set_option linter.unusedSimpArgs false
set_option linter.constructorNameAsVariable false
namespace Go.Abs
open Go.RowKit
variable [Tabs]

def xNat (E : Env) (d : Nat) : Option Operand → Option Nat
  | none => some d
  | some y => match evE E y with
    | some (.int _ (.ofNat a)) => some a
    | _ => none
def headK (k : Nat) : List AV → Bool
  | [] => true
  | x :: _ => Nat.beq x.cells.length k
def xSlice (P : Program) (E : Env) (t : TypeId) (x : AV) (lo hi : Option Operand) : Option AV :=
  match x with
  | .str l => match P.underlying t with
    | some .string => match xNat E 0 lo, xNat E l.length hi with
      | some a, some b => bif Nat.ble a b then (bif Nat.ble b l.length then (match lo, hi with
        | none, none => none
        | none, some _ => some (.str (l.take b))
        | some _, none => some (.str (l.drop a))
        | some _, some _ => some (.str ((l.drop a).take (b - a)))) else none) else none
      | _, _ => none
    | _ => none
  | .lst xs _ => match P.underlying t with
    | some (.slice e) => match xTy P e with
      | some (_, k) => match xNat E 0 lo, xNat E xs.length hi with
        | some a, some b => bif Nat.ble a b then (bif Nat.ble b xs.length then (bif headK k xs then some (.lst ((xs.drop a).take (b - a)) none) else none) else none) else none
        | _, _ => none
      | none => none
    | _ => none
  | _ => none

/-- Bytes out of a slice of bytes. -/
def unbytes : List AV → Option Str
  | [] => some []
  | .int .u8 (.ofNat n) :: xs => bif Nat.ble n 255 then (match unbytes xs with
    | some l => some (UInt8.ofNat n :: l)
    | none => none) else none
  | _ => none
theorem unbytes_eq : ∀ {xs : List AV} {l : Str}, unbytes xs = some l → xs = bytesA l
  | [], l, h => by simp only [unbytes, Option.some.injEq] at h; subst h; rfl
  | x :: xs, l, h => by
    unfold unbytes at h
    split at h
    · rename_i h'; cases h'
    · rename_i n xs' he
      simp only [List.cons.injEq] at he
      obtain ⟨rfl, rfl⟩ := he
      cases hb : Nat.ble n 255 with
      | false => rw [hb] at h; simp at h
      | true =>
        rw [hb] at h
        simp only [cond_true] at h
        split at h
        · rename_i l' hl
          simp only [Option.some.injEq] at h; subst h
          have := Nat.le_of_ble_eq_true hb
          rw [unbytes_eq hl]
          simp only [bytesA, List.map_cons]
          have e : (UInt8.ofNat n).toNat = n := by simp; omega
          rw [e]; rfl
        · simp at h
    · simp at h
def xConv (P : Program) (t u : TypeId) (x : AV) : Option AV :=
  match x with
  | .str l => match P.underlying t, P.underlying u with
    | some .string, some .string => some (.str l)
    | some .string, some (.slice e) => match P.underlying e with
      | some (.int .u8) => some (.lst (bytesA l) none)
      | _ => none
    | _, _ => none
  | .int _ i => match P.underlying t, P.underlying u with
    | some (.int _), some (.int k) => some (.int k (k.wrap i))
    | _, _ => none
  | .lst xs _ => match P.underlying t, P.underlying u with
    | some (.slice e), some .string => match P.underlying e with
      | some (.int .u8) => match unbytes xs with
        | some l => some (.str l)
        | none => none
      | _ => none
    | _, _ => none
  | .nils => match P.underlying t, P.underlying u with
    | some (.slice e), some .string => match P.underlying e with
      | some (.int .u8) => some (.str [])
      | _ => none
    | _, _ => none
  | _ => none
def xLen (P : Program) (t : TypeId) (x : AV) : Option AV :=
  match x with
  | .str l => match P.underlying t with
    | some .string => some (.int .i64 l.length)
    | _ => none
  | .lst xs _ => match P.underlying t with
    | some (.slice _) => some (.int .i64 xs.length)
    | _ => none
  | .nils => match P.underlying t with
    | some (.slice _) => some (.int .i64 0)
    | _ => none
  | _ => none
def xIndex (P : Program) (t : TypeId) (x : AV) (i : AV) : Option AV :=
  match x, i with
  | .str l, .int _ (.ofNat n) => match P.underlying t with
    | some .string => match l[n]? with
      | some c => some (.int .u8 c.toNat)
      | none => none
    | _ => none
  | _, _ => none
def xIndexAddr (P : Program) (t : TypeId) (x : AV) (i : AV) : Option AV :=
  match x, i with
  | .lst xs _, .int _ (.ofNat n) => match P.underlying t with
    | some (.slice e) => match xTy P e with
      | some (_, k) => match xs[n]? with
        | some v => bif Nat.beq v.cells.length k then some (.iptr v.cells) else none
        | none => none
      | none => none
    | _ => none
  | _, _ => none
def xField (P : Program) (t : TypeId) (f : Nat) : AV → Option AV
  | .agg cs => match fieldOf P t f with
    | some (ft, off) => match xTy P ft with
      | some (agg, k) => bif agg || Nat.beq k 1 then (bif Nat.ble (off + k) cs.length then (match force ((cs.drop off).take k) with
        | some ds => some (mkAV agg ds)
        | none => none) else none) else none
      | none => none
    | none => none
  | _ => none
def xFieldAddr (P : Program) (t : TypeId) (f : Nat) (x : AV) : Option AV :=
  match fieldSize P t f with
  | some (off, size) => bif Nat.ble 1 size then (match x with
    | .ptr k i => some (.ptr k (i + off))
    | .iptr cs => some (.iptr (cs.drop off))
    | _ => none) else none
  | none => none
def xAssert (P : Program) (at_ : TypeId) (ok : Bool) (x : AV) : Option AV :=
  match (P.underlying at_).map ifaceD with
  | some false => match x with
    | .iface t v => bif Nat.beq t at_ then (if ok then some (.tuple [v, .bool true]) else some v) else (match ok, zeroA P at_ with
      | true, some z => some (.tuple [z, .bool false])
      | _, _ => none)
    | .nili => match ok, zeroA P at_ with
      | true, some z => some (.tuple [z, .bool false])
      | _, _ => none
    | _ => none
  | _ => none
def xBuild (P : Program) (E : Env) (t : TypeId) (parts : List (Nat × Operand)) : Option AV :=
  match zeroC P t, placesOf P t, evpE E parts with
  | some zs, some ps, some vs => match fillA (fun i => ps[i]?) zs vs with
    | some ds => some (.agg ds)
    | none => none
  | _, _, _ => none
def xBuildSlice (P : Program) (E : Env) (t : TypeId) (len : Nat) (parts : List (Nat × Operand)) : Option AV :=
  match P.underlying t with
  | some (.slice e) => match xTy P e, zeroC P e, evpE E parts with
    | some (agg, k), some zs, some vs => bif (agg || Nat.beq k 1) && Nat.beq zs.length k && Nat.ble (len * k) 16777216 then (match fillA (fun i => some (i * k, k)) (repA zs len) vs with
      | some ds => bif Nat.beq ds.length (len * k) && (agg || ds.all AV.one) then some (.lst (chunks agg k len ds) none) else none
      | none => none) else none
    | _, _, _ => none
  | _ => none

/-- What reads no object. -/
def xPure (P : Program) (E : Env) : Op → Option AV
  | .move x => evE E x
  | .assign x => evE E x
  | .pick c x y => match evE E c with
    | some (.bool b) => match b with
      | true => evE E x
      | false => evE E y
    | _ => none
  | .binOp op t x y _ => match evE E x with
    | some a => match xBin P op t a y (evE E y) with
      | some v => forceV v
      | none => none
    | none => none
  | .unOp .not _ x => match evE E x with
    | some (.bool b) => some (.bool (!b))
    | _ => none
  | .unOp .neg _ x => match evE E x with
    | some (.int k i) => some (.int k (k.wrap (0 - i)))
    | _ => none
  | .extract x i => match evE E x with
    | some (.tuple vs) => vs[i]?
    | _ => none
  | .makeInterface t x => match (P.underlying t).map ifaceD, evE E x with
    | some false, some v => some (.iface t v)
    | _, _ => none
  | .makeFunc fn b cap => match b.toList, evsE E cap.toList with
    | [], some vs => some (.func fn vs)
    | _, _ => none
  | .field t x f => match evE E x with
    | some v => xField P t f v
    | none => none
  | .fieldAddr t x f => match evE E x with
    | some v => xFieldAddr P t f v
    | none => none
  | .index t x y => match evE E x, evE E y with
    | some v, some i => xIndex P t v i
    | _, _ => none
  | .indexAddr t x y => match evE E x, evE E y with
    | some v, some i => xIndexAddr P t v i
    | _, _ => none
  | .convert t u x => match evE E x with
    | some v => match xConv P t u v with
      | some w => forceV w
      | none => none
    | none => none
  | .slice t x lo hi none => match evE E x with
    | some v => match xSlice P E t v lo hi with
      | some w => forceV w
      | none => none
    | none => none
  | .build t parts => xBuild P E t parts.toList
  | .buildSlice t len parts => match xBuildSlice P E t len parts.toList with
    | some w => forceV w
    | none => none
  | .nilCheck x => match evE E x with
    | some (.ptr r i) => some (.ptr r i)
    | some (.iptr cs) => some (.iptr cs)
    | some (.func (.func f) cs) => some (.func (.func f) cs)
    | _ => none
  | .typeAssert x _ at_ ok => match evE E x with
    | some v => xAssert P at_ ok v
    | none => none
  | .call { callee := .builtin .len, args := xs, argTypes := ts } => match xs.toList, ts.toList with
    | [x], [t] => match evE E x with
      | some v => match xLen P t v with
        | some w => forceV w
        | none => none
      | none => none
    | _, _ => none
  | _ => none

section
variable {P : Program} {Q : APost} {s : ASt} {N : ASt → Prop} {o : Oper} {E : Env}

theorem xNat_lo (hE : Ext E s) {y : Option Operand} {d a : Nat} (h : xNat E d y = some a) : (y = none ∧ a = d) ∨ ∃ z k, y = some z ∧ s.ev z = some (.int k a) := by
  unfold xNat at h
  split at h
  · simp only [Option.some.injEq] at h; exact .inl ⟨rfl, h.symm⟩
  · split at h
    · rename_i hv
      simp only [Option.some.injEq] at h; subst h
      exact .inr ⟨_, _, rfl, evE_ev hE hv⟩
    · simp at h
theorem bif_some {α : Type} {b : Bool} {x : Option α} {v : α} (h : (bif b then x else none) = some v) : b = true ∧ x = some v := by cases b <;> simp_all

theorem xSlice_ok (hE : Ext E s) {t : TypeId} {x : Operand} {lo hi : Option Operand} {v w : AV} (ho : o.op = .slice t x lo hi none) (hd : dstOK o.dst s.n = true) (hx : s.ev x = some v) (h : xSlice P E t v lo hi = some w) (hN : N (s.put o.dst w)) : AOp P o N Q s := by
  unfold xSlice at h
  split at h
  · rename_i l
    split at h
    · rename_i ht
      split at h
      · rename_i a b ha hb
        obtain ⟨h1, h⟩ := bif_some h
        obtain ⟨h2, h⟩ := bif_some h
        have h1 := Nat.le_of_ble_eq_true h1
        have h2 := Nat.le_of_ble_eq_true h2
        have hlo := xNat_lo hE ha
        have hhi := xNat_lo hE hb
        split at h
        · simp at h
        · simp only [Option.some.injEq] at h; subst h
          rcases hhi with ⟨h', _⟩ | ⟨z, k, hz, hv⟩
          · simp at h'
          · simp only [Option.some.injEq] at hz; subst hz
            exact op_slice_s0 ho hd ht hx hv h2 hN
        · simp only [Option.some.injEq] at h; subst h
          rcases hlo with ⟨h', _⟩ | ⟨z, k, hz, hv⟩
          · simp at h'
          · simp only [Option.some.injEq] at hz; subst hz
            rcases hhi with ⟨_, rfl⟩ | ⟨z', _, hz', _⟩
            · exact op_slice_s1 ho hd ht hx hv h1 hN
            · simp at hz'
        · simp only [Option.some.injEq] at h; subst h
          rcases hlo with ⟨h', _⟩ | ⟨z, k, hz, hv⟩
          · simp at h'
          · rcases hhi with ⟨h', _⟩ | ⟨z', k', hz', hv'⟩
            · simp at h'
            · simp only [Option.some.injEq] at hz hz'; subst hz hz'
              exact op_slice_s2 ho hd ht hx hv hv' h1 h2 hN
      · simp at h
    · simp at h
  · rename_i xs tok
    split at h
    · rename_i e ht
      split at h
      · rename_i agg k hk
        split at h
        · rename_i a b ha hb
          obtain ⟨h1, h⟩ := bif_some h
          obtain ⟨h2, h⟩ := bif_some h
          obtain ⟨h3, h⟩ := bif_some h
          simp only [Option.some.injEq] at h; subst h
          intro G W c ra r
          have hall : ∀ x ∈ xs, x.cells.length = k := by
            have hrel := ev_eval ra hx
            generalize c.eval x = z at hrel
            match xs, h3, hrel with
            | [], _, _ => simp
            | y :: ys, h3, hrel =>
              have h3 : y.cells.length = k := Nat.eq_of_beq_eq_true h3
              cases hrel with
              | lst _ hk' _ _ _ =>
                rw [← h3, hk' y (by simp)]; exact hk'
          exact op_slice_l ho hd ht (xTy_ok hk) hx (xNat_lo hE ha) (xNat_lo hE hb) (Nat.le_of_ble_eq_true h1) (Nat.le_of_ble_eq_true h2) hall hN G W c ra r
        · simp at h
      · simp at h
    · simp at h
  · simp at h

theorem xConv_ok {t u : TypeId} {x : Operand} {v w : AV} (ho : o.op = .convert t u x) (hd : dstOK o.dst s.n = true) (hx : s.ev x = some v) (h : xConv P t u v = some w) (hN : N (s.put o.dst w)) : AOp P o N Q s := by
  unfold xConv at h
  split at h
  · split at h
    · simp only [Option.some.injEq] at h; subst h
      rename_i h1 h2
      exact op_conv_s ho hd h1 h2 hx hN
    · rename_i h1 h2
      split at h
      · rename_i h3
        simp only [Option.some.injEq] at h; subst h
        exact op_bytes ho hd h1 h2 h3 hx hN
      · simp at h
    · simp at h
  · split at h
    · rename_i h1 h2
      simp only [Option.some.injEq] at h; subst h
      exact op_conv_i ho hd h1 h2 hx hN
    · simp at h
  · split at h
    · rename_i h1 h2
      split at h
      · rename_i h3
        split at h
        · rename_i l hl
          simp only [Option.some.injEq] at h; subst h
          exact op_string ho hd h1 h3 h2 hx (unbytes_eq hl) hN
        · simp at h
      · simp at h
    · simp at h
  · split at h
    · rename_i e h1 h2
      split at h
      · rename_i h3
        simp only [Option.some.injEq] at h; subst h
        refine op_val hd (fun G W c ra _ => ⟨.string (mkS []), ?_, .str []⟩) hN
        have hv := ev_eval ra hx
        unfold execOp
        simp only [ho]
        generalize c.eval x = z at hv
        cases hv
        simp [convert, underlying, h1, h2, h3, Conv.bytesToString, mkS]
        rfl
      · simp at h
    · simp at h
  · simp at h
theorem xLen_ok {t : TypeId} {x : Operand} {v w : AV} (ho : o.op = .call { callee := .builtin .len, args := #[x], argTypes := #[t] }) (hd : dstOK o.dst s.n = true) (hx : s.ev x = some v) (h : xLen P t v = some w) (hN : N (s.put o.dst w)) : AOp P o N Q s := by
  unfold xLen at h
  split at h <;> (try split at h) <;> simp only [Option.some.injEq, reduceCtorEq] at h <;> subst h
  · rename_i ht; exact op_len_s ho hd ht hx hN
  · rename_i ht; exact op_len_l ho hd ht hx hN
  · rename_i ht; exact op_len_nils ho hd ht hx hN
theorem xIndex_ok {t : TypeId} {x y : Operand} {v i w : AV} (ho : o.op = .index t x y) (hd : dstOK o.dst s.n = true) (hx : s.ev x = some v) (hy : s.ev y = some i) (h : xIndex P t v i = some w) (hN : N (s.put o.dst w)) : AOp P o N Q s := by
  unfold xIndex at h
  split at h
  · split at h
    · rename_i ht
      split at h
      · rename_i c hc
        simp only [Option.some.injEq] at h; subst h
        exact op_index_s ho hd ht hx hy (Int.natCast_nonneg _) hc hN
      · simp at h
    · simp at h
  · simp at h
theorem xIndexAddr_ok {t : TypeId} {x y : Operand} {v i w : AV} (ho : o.op = .indexAddr t x y) (hd : dstOK o.dst s.n = true) (hx : s.ev x = some v) (hy : s.ev y = some i) (h : xIndexAddr P t v i = some w) (hN : N (s.put o.dst w)) : AOp P o N Q s := by
  unfold xIndexAddr at h
  split at h
  · split at h
    · rename_i ht
      split at h
      · rename_i hk
        split at h
        · rename_i c hc
          obtain ⟨h1, h⟩ := bif_some h
          simp only [Option.some.injEq] at h; subst h
          exact op_indexaddr ho hd ht (xTy_ok hk) hx hy hc (Nat.eq_of_beq_eq_true h1) hN
        · simp at h
      · simp at h
    · simp at h
  · simp at h
theorem or_size {agg : Bool} {k : Nat} (h : (agg || Nat.beq k 1) = true) : agg = true ∨ k = 1 := by
  rw [Bool.or_eq_true] at h
  exact h.imp id Nat.eq_of_beq_eq_true
theorem xField_ok {t : TypeId} {x : Operand} {f : Nat} {v w : AV} (ho : o.op = .field t x f) (hd : dstOK o.dst s.n = true) (hx : s.ev x = some v) (h : xField P t f v = some w) (hN : N (s.put o.dst w)) : AOp P o N Q s := by
  unfold xField at h
  split at h
  · split at h
    · rename_i hf
      split at h
      · rename_i hk
        obtain ⟨h1, h⟩ := bif_some h
        obtain ⟨h2, h⟩ := bif_some h
        split at h
        · rename_i ds hds
          simp only [Option.some.injEq] at h; subst h
          exact op_field ho hd hf (xTy_ok hk) (or_size h1) hx (by simpa using Nat.le_of_ble_eq_true h2) (by rw [force_eq hds]; exact hN)
        · simp at h
      · simp at h
    · simp at h
  · simp at h
theorem xFieldAddr_ok {t : TypeId} {x : Operand} {f : Nat} {v w : AV} (ho : o.op = .fieldAddr t x f) (hd : dstOK o.dst s.n = true) (hx : s.ev x = some v) (h : xFieldAddr P t f v = some w) (hN : N (s.put o.dst w)) : AOp P o N Q s := by
  unfold xFieldAddr at h
  split at h
  · rename_i hf
    obtain ⟨h1, h⟩ := bif_some h
    have h1 := Nat.le_of_ble_eq_true h1
    split at h <;> simp only [Option.some.injEq, reduceCtorEq] at h <;> subst h
    · exact op_fieldaddr ho hd hf (by simp; omega) hx hN
    · exact op_fieldaddr_imm ho hd hf (by simp; omega) hx hN
  · simp at h
theorem xAssert_ok {x : Operand} {xt at_ : TypeId} {ok : Bool} {v w : AV} (ho : o.op = .typeAssert x xt at_ ok) (hd : dstOK o.dst s.n = true) (hx : s.ev x = some v) (h : xAssert P at_ ok v = some w) (hN : N (s.put o.dst w)) : AOp P o N Q s := by
  unfold xAssert at h
  split at h
  · rename_i ht
    split at h
    · rename_i t y
      cases hb : Nat.beq t at_ with
      | true =>
        have := Nat.eq_of_beq_eq_true hb
        subst this
        rw [hb] at h
        simp only [cond_true] at h
        refine op_assert_is ho hd ht hx ?_
        cases ok <;> simp at h <;> subst h <;> exact hN
      | false =>
        have hne : t ≠ at_ := by rintro rfl; simp at hb
        rw [hb] at h
        simp only [cond_false] at h
        split at h
        · rename_i hz
          simp only [Option.some.injEq] at h; subst h
          exact op_assert_not ho hd ht hz hx (.inr ⟨_, _, rfl, hne⟩) hN
        · simp at h
    · split at h
      · rename_i hz
        simp only [Option.some.injEq] at h; subst h
        exact op_assert_not ho hd ht hz hx (.inl rfl) hN
      · simp at h
    · simp at h
  · simp at h
theorem xBuild_ok (hE : Ext E s) {t : TypeId} {parts : Array (Nat × Operand)} {w : AV} (ho : o.op = .build t parts) (hd : dstOK o.dst s.n = true) (h : xBuild P E t parts.toList = some w) (hN : N (s.put o.dst w)) : AOp P o N Q s := by
  unfold xBuild at h
  split at h
  · rename_i h1 h2 h3
    split at h
    · rename_i hf
      simp only [Option.some.injEq] at h; subst h
      exact op_build ho hd h1 h2 (evpE_evp hE h3) hf hN
    · simp at h
  · simp at h
theorem xBuildSlice_ok (hE : Ext E s) {t : TypeId} {len : Nat} {parts : Array (Nat × Operand)} {w : AV} (ho : o.op = .buildSlice t len parts) (hd : dstOK o.dst s.n = true) (h : xBuildSlice P E t len parts.toList = some w) (hN : N (s.put o.dst w)) : AOp P o N Q s := by
  unfold xBuildSlice at h
  split at h
  · rename_i ht
    split at h
    · rename_i h1 h2 h3
      obtain ⟨hc, h⟩ := bif_some h
      simp only [Bool.and_eq_true] at hc
      split at h
      · rename_i hf
        obtain ⟨hc2, h⟩ := bif_some h
        simp only [Bool.and_eq_true] at hc2
        simp only [Option.some.injEq] at h; subst h
        exact op_build_slice ho hd ht (xTy_ok h1) (or_size hc.1.1) h2 (Nat.eq_of_beq_eq_true hc.1.2) (Nat.le_of_ble_eq_true hc.2) (evpE_evp hE h3) hf (Nat.eq_of_beq_eq_true hc2.1) (by simpa using hc2.2) hN
      · simp at h
    · simp at h
  · simp at h

theorem xPure_ok {op : Op} {v : AV} (hop : o.op = op) (h : xPure P E op = some v) (hE : Ext E s) (hd : dstOK o.dst s.n = true) (hN : N (s.put o.dst v)) : AOp P o N Q s := by
  unfold xPure at h
  split at h
  · exact op_move hop hd (evE_ev hE h) hN
  · exact op_assign hop hd (evE_ev hE h) hN
  · split at h
    · rename_i hc
      split at h
      · exact op_pick_t hop hd (evE_ev hE hc) (evE_ev hE h) hN
      · exact op_pick_f hop hd (evE_ev hE hc) (evE_ev hE h) hN
    · simp at h
  · split at h
    · rename_i hx
      split at h
      · rename_i hb
        rw [forceV_eq h] at hb
        exact xBin_ok hop hd (evE_ev hE hx) (fun b' hb' => evE_ev hE hb') hb hN
      · simp at h
    · simp at h
  · split at h
    · rename_i hx
      simp only [Option.some.injEq] at h; subst h
      exact op_not hop hd (evE_ev hE hx) hN
    · simp at h
  · split at h
    · rename_i hx
      simp only [Option.some.injEq] at h; subst h
      exact op_neg hop hd (evE_ev hE hx) hN
    · simp at h
  · split at h
    · rename_i hx
      exact op_extract hop hd (evE_ev hE hx) h hN
    · simp at h
  · split at h
    · rename_i ht hx
      simp only [Option.some.injEq] at h; subst h
      exact op_iface hop hd ht (evE_ev hE hx) hN
    · simp at h
  · rename_i fn b cap
    split at h
    · rename_i hb hx
      simp only [Option.some.injEq] at h; subst h
      have : b = #[] := by apply Array.ext'; simpa using hb
      subst this
      exact op_func hop hd (evsE_evs hE hx) hN
    · simp at h
  · split at h
    · rename_i hx
      exact xField_ok hop hd (evE_ev hE hx) h hN
    · simp at h
  · split at h
    · rename_i hx
      exact xFieldAddr_ok hop hd (evE_ev hE hx) h hN
    · simp at h
  · split at h
    · rename_i hx hy
      exact xIndex_ok hop hd (evE_ev hE hx) (evE_ev hE hy) h hN
    · simp at h
  · split at h
    · rename_i hx hy
      exact xIndexAddr_ok hop hd (evE_ev hE hx) (evE_ev hE hy) h hN
    · simp at h
  · split at h
    · rename_i hx
      split at h
      · rename_i hw
        rw [forceV_eq h] at hw
        exact xConv_ok hop hd (evE_ev hE hx) hw hN
      · simp at h
    · simp at h
  · split at h
    · rename_i hx
      split at h
      · rename_i hw
        rw [forceV_eq h] at hw
        exact xSlice_ok hE hop hd (evE_ev hE hx) hw hN
      · simp at h
    · simp at h
  · exact xBuild_ok hE hop hd h hN
  · split at h
    · rename_i hw
      rw [forceV_eq h] at hw
      exact xBuildSlice_ok hE hop hd hw hN
    · simp at h
  · split at h
    · rename_i hx
      simp only [Option.some.injEq] at h; subst h
      exact op_nilcheck_ptr hop hd (evE_ev hE hx) hN
    · rename_i hx
      simp only [Option.some.injEq] at h; subst h
      exact op_nilcheck_iptr hop hd (evE_ev hE hx) hN
    · rename_i hx
      simp only [Option.some.injEq] at h; subst h
      exact op_nilcheck_func hop hd (evE_ev hE hx) hN
    · simp at h
  · split at h
    · rename_i hx
      exact xAssert_ok hop hd (evE_ev hE hx) h hN
    · simp at h
  · rename_i xs ts
    split at h
    · rename_i x t hxs hts
      split at h
      · rename_i hx
        split at h
        · rename_i hw
          rw [forceV_eq h] at hw
          have e1 : xs = #[x] := by apply Array.ext'; simpa using hxs
          have e2 : ts = #[t] := by apply Array.ext'; simpa using hts
          subst e1 e2
          exact xLen_ok hop hd (evE_ev hE hx) hw hN
        · simp at h
      · simp at h
    · simp at h
  · simp at h
end
end Go.Abs
