/- The abstract layer: contracts of the library's functions, brought into it. -/
import Derived.Test.YtjmedgagpheofaaGreatDoorXC
import Derived.Lib.ItoaNum
set_option linter.unusedSectionVars false
set_option linter.unusedVariables false
set_option linter.unusedSimpArgs false
set_option linter.constructorNameAsVariable false
namespace Go.Abs
open Go.RowKit
variable [Tabs]

section
variable {P : Program}
/-- The world stands. -/
theorem callsA_same {f : FuncId} {args : List AV} {H : List AObj} {v : AV} (h : ∀ G W vs, RvL G args vs → R G H W → ∃ x, Rv G v x ∧ Calls P f vs.toArray W fun e w' => e = .returned x ∧ w' = W) : Pure P f args H v := by
  refine ⟨fun G W vs hv r => ?_⟩
  obtain ⟨x, hx, hc⟩ := h G W vs hv r
  refine hc.mono ?_
  rintro e w' ⟨rfl, rfl⟩
  exact ⟨.ret v, H, G, ⟨rfl, rfl⟩, .ret hx, r, .refl G⟩
/-- The world grows. -/
theorem callsA_grow {f : FuncId} {args : List AV} {H : List AObj} {v : AV} (h : ∀ G W vs, RvL G args vs → R G H W → ∃ x, Rv G v x ∧ Calls P f vs.toArray W fun e w' => e = .returned x ∧ Grow W w') : Pure P f args H v := by
  refine ⟨fun G W vs hv r => ?_⟩
  obtain ⟨x, hx, hc⟩ := h G W vs hv r
  refine hc.mono ?_
  rintro e w' ⟨rfl, hg⟩
  exact ⟨.ret v, H, G, ⟨rfl, rfl⟩, .ret hx, r.grow hg, .refl G⟩

theorem RvL.one_inv {G : Gh} {a : AV} {vs : List Value} (h : RvL G [a] vs) : ∃ x, vs = [x] ∧ Rv G a x := by
  cases h with | cons ha hl => cases hl; exact ⟨_, rfl, ha⟩
theorem RvL.two_inv {G : Gh} {a b : AV} {vs : List Value} (h : RvL G [a, b] vs) : ∃ x y, vs = [x, y] ∧ Rv G a x ∧ Rv G b y := by
  cases h with | cons ha hl => obtain ⟨y, rfl, hb⟩ := RvL.one_inv hl; exact ⟨_, _, rfl, ha, hb⟩

/-! ### Numerals that the kernel works out -/
def digitsF : Nat → Nat → Str → Option Str
  | 0, _, _ => none
  | k + 1, u, acc => bif Nat.ble 10 u then digitsF k (u / 10) (UInt8.ofNat (48 + u % 10) :: acc) else some (UInt8.ofNat (48 + u) :: acc)
theorem digitsF_eq : ∀ {k u : Nat} {acc s : Str}, digitsF k u acc = some s → s = Lib.decDigits u ++ acc
  | 0, _, _, _, h => by simp [digitsF] at h
  | k + 1, u, acc, s, h => by
    unfold digitsF at h
    rw [Lib.decDigits]
    cases hb : Nat.ble 10 u with
    | true =>
      have := Nat.le_of_ble_eq_true hb
      rw [hb] at h
      rw [dif_neg (by omega), digitsF_eq h]; simp
    | false =>
      have : u < 10 := by
        rcases Nat.lt_or_ge u 10 with h' | h'
        · exact h'
        · rw [Nat.ble_eq_true_of_le h'] at hb; cases hb
      rw [hb] at h
      simp only [cond_false, Option.some.injEq] at h
      rw [dif_pos this, ← h]; rfl
def itoaF : Int → Option Str
  | .ofNat u => digitsF 25 u []
  | .negSucc u => match digitsF 25 (u + 1) [] with
    | some s => some (45 :: s)
    | none => none
theorem itoaF_eq {n : Int} {s : Str} (h : itoaF n = some s) : s = Lib.itoa n := by
  unfold itoaF at h
  split at h
  · rename_i u
    have := digitsF_eq h
    simp only [List.append_nil] at this
    rw [this]
    simp [Lib.itoa]
  · rename_i u
    split at h
    · rename_i s' hs
      have := digitsF_eq hs
      simp only [List.append_nil] at this
      simp only [Option.some.injEq] at h; subst h
      rw [this]
      have hn : (Int.negSucc u) < 0 := Int.negSucc_lt_zero u
      simp [Lib.itoa, hn]
    · simp at h

/-- A table of functions: entries by number. -/
structure TabE (P : Program) where
  f : FuncId
  run : List AV → List AObj → Option (AEnd × List AObj × Nat)
  ok : ∀ as H e H' low, run as H = some (e, H', low) → Same low H H' ∧ InvA P f as H fun e' H'' => e' = e ∧ H'' = H'
def tabT {P : Program} : List (TabE P) → CallF
  | [], _, _, _ => none
  | e :: es, f, as, H => bif Nat.beq e.f f then e.run as H else tabT es f as H
theorem tabT_ok : ∀ (es : List (TabE P)), CallHyp P (tabT es)
  | [] => ⟨fun _ _ _ _ _ _ h => by simp [tabT] at h⟩
  | e :: es => by
    have ih := tabT_ok es
    refine ⟨fun f as H x H' low h => ?_⟩
    simp only [tabT] at h
    cases hb : Nat.beq e.f f with
    | true =>
      rw [hb] at h
      simp only [cond_true] at h
      have := Nat.eq_of_beq_eq_true hb
      subst this
      exact e.ok _ _ _ _ _ h
    | false =>
      rw [hb] at h
      exact ih.ok _ _ _ _ _ _ h
/-- One that only computes. -/
def TabE.pure (f : FuncId) (he : Ent P f) (run : List AV → Option AV) (ok : ∀ as v H, run as = some v → Pure P f as H v) : TabE P where
  f := f
  run := fun as H => match run as with
    | some v => some (.ret v, H, inf)
    | none => none
  ok := by
    intro as H e H' low h
    split at h
    · rename_i v hv
      simp only [Option.some.injEq, Prod.mk.injEq] at h
      obtain ⟨rfl, rfl, rfl⟩ := h
      exact ⟨Same.refl _, .inl ⟨he, ok _ _ _ hv⟩⟩
    · simp at h
/-- internal/abi.NoEscape. -/
def TabE.noescape (f : FuncId) (hb : Bare P f Extern.AbiNoEscape.same) : TabE P where
  f := f
  run := fun as H => match as with
    | [v] => some (.ret v, H, inf)
    | _ => none
  ok := by
    intro as H e H' low h
    split at h
    · simp only [Option.some.injEq, Prod.mk.injEq] at h
      obtain ⟨rfl, rfl, rfl⟩ := h
      exact ⟨Same.refl _, .inr (ext_noescape hb)⟩
    · simp at h
/-- maps.clone. -/
def TabE.clone (f : FuncId) (hb : Bare P f Extern.MapsClone.clone) : TabE P where
  f := f
  run := fun as H => match as with
    | [.iface t (.mapv m)] => match H[m]? with
      | some (.map es c) => match force (H ++ [.map es c]) with
        | some H' => some (.ret (.iface t (.mapv H.length)), H', inf)
        | none => none
      | _ => none
    | _ => none
  ok := by
    intro as H e H' low h
    split at h
    · split at h
      · rename_i hm
        split at h
        · rename_i hH
          simp only [Option.some.injEq, Prod.mk.injEq] at h
          obtain ⟨rfl, rfl, rfl⟩ := h
          have hH := force_eq hH
          subst hH
          exact ⟨Same.app _ _, .inr (ext_clone hb hm)⟩
        · simp at h
      · simp at h
    · simp at h
end
end Go.Abs
