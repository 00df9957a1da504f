/- Contracts in tables, for symbolic runs. -/
import Derived.Test.YtjmedgagpheofaaGreatDoorVR
set_option linter.unusedSectionVars false
set_option linter.unusedVariables false
set_option linter.unusedSimpArgs false
set_option linter.constructorNameAsVariable false
namespace Go.Abs
open Go.RowKit
variable [Tabs]

/-- Functions that leave the heap as it was: condition and result. -/
abbrev GF := List AV → Option (Cd × AV)
abbrev GT := List (FuncId × GF)
def findG : GT → FuncId → Option GF
  | [], _ => none
  | e :: l, f => bif Nat.beq f e.1 then some e.2 else findG l f
def tabF (l : GT) : VCF := fun f as H => match findG l f with
  | some g => match g as with
    | some (c, v) => some fun Q => Cd.and c (Q (.ret v) H)
    | none => none
  | none => none
def tabD (l : GT) : VCD := fun f as H => match findG l f with
  | some g => match g as with
    | some (c, v) => some (c, v, H, inf)
    | none => none
  | none => none
/-- What a contract says. -/
def GOK1 (P : Program) (f : FuncId) (g : GF) : Prop := ∀ as c v H, g as = some (c, v) → c.holds → InvA P f as H fun e H' => e = .ret v ∧ H' = H
def GOK (P : Program) : GT → Prop
  | [] => True
  | e :: l => GOK1 P e.1 e.2 ∧ GOK P l
theorem GOK.find {P : Program} {f : FuncId} {g : GF} : ∀ {l : GT}, GOK P l → findG l f = some g → GOK1 P f g
  | [], _, h => by simp [findG] at h
  | e :: l, hok, h => by
    simp only [findG] at h
    cases hb : Nat.beq f e.1 with
    | true =>
      rw [hb] at h
      simp only [cond_true, Option.some.injEq] at h; subst h
      rw [Nat.eq_of_beq_eq_true hb]
      exact hok.1
    | false =>
      rw [hb] at h
      exact GOK.find hok.2 h
theorem tabF_ok {P : Program} {l : GT} (hl : GOK P l) : VCFOK P (tabF l) := by
  intro f as H w h Q hQ
  unfold tabF at h
  split at h
  · rename_i g hg
    split at h
    · rename_i c v hv
      simp only [Option.some.injEq] at h; subst h
      obtain ⟨hc, hQ⟩ := Cd.and_ok hQ
      exact (hl.find hg as c v H hv hc).mono fun e H' ⟨h1, h2⟩ => by rw [h1, h2]; exact hQ
    · simp at h
  · simp at h
theorem tabD_ok {P : Program} {l : GT} (hl : GOK P l) : VCDOK P (tabD l) := by
  intro f as H c v H' low h hc
  unfold tabD at h
  split at h
  · rename_i g hg
    split at h
    · rename_i c' v' hv
      simp only [Option.some.injEq, Prod.mk.injEq] at h
      obtain ⟨rfl, rfl, rfl, rfl⟩ := h
      exact ⟨Same.refl _, hl.find hg as _ _ _ hv hc⟩
    · simp at h
  · simp at h
theorem GOK1.of {P : Program} {f : FuncId} {g : GF} (he : Ent P f) (h : ∀ as c v H, g as = some (c, v) → c.holds → Pure P f as H v) : GOK1 P f g := fun as c v H hg hc => .inl ⟨he, h as c v H hg hc⟩

/-- Functions with two ends. -/
abbrev GF2 := List AV → Option (Cd × Bool × AV × AV)
abbrev GT2 := List (FuncId × GF2)
def findG2 : GT2 → FuncId → Option GF2
  | [], _ => none
  | e :: l, f => bif Nat.beq f e.1 then some e.2 else findG2 l f
def tabF2 (l2 : GT2) (l : GT) : VCF := fun f as H => match findG2 l2 f with
  | some g => match g as with
    | some (c, b, v, w) => some fun Q => Cd.and c (cond b (Q (.ret v) H) (Q (.ret w) H))
    | none => none
  | none => tabF l f as H
def GOK2 (P : Program) : GT2 → Prop
  | [] => True
  | e :: l => (∀ as c b v w H, e.2 as = some (c, b, v, w) → c.holds → InvA P e.1 as H fun x H' => x = .ret (cond b v w) ∧ H' = H) ∧ GOK2 P l
theorem GOK2.find {P : Program} {f : FuncId} {g : GF2} : ∀ {l : GT2}, GOK2 P l → findG2 l f = some g → ∀ as c b v w H, g as = some (c, b, v, w) → c.holds → InvA P f as H fun x H' => x = .ret (cond b v w) ∧ H' = H
  | [], _, h => by simp [findG2] at h
  | e :: l, hok, h => by
    simp only [findG2] at h
    cases hb : Nat.beq f e.1 with
    | true =>
      rw [hb] at h
      simp only [cond_true, Option.some.injEq] at h; subst h
      rw [Nat.eq_of_beq_eq_true hb]
      exact hok.1
    | false =>
      rw [hb] at h
      exact GOK2.find hok.2 h
theorem tabF2_ok {P : Program} {l2 : GT2} {l : GT} (h2 : GOK2 P l2) (hl : GOK P l) : VCFOK P (tabF2 l2 l) := by
  intro f as H w h Q hQ
  unfold tabF2 at h
  split at h
  · rename_i g hg
    split at h
    · rename_i c b v v' hv
      simp only [Option.some.injEq] at h; subst h
      obtain ⟨hc, hQ⟩ := Cd.and_ok hQ
      refine (h2.find hg as c b v v' H hv hc).mono fun e H' ⟨h1, h2⟩ => ?_
      rw [h1, h2]
      cases b <;> exact hQ
    · simp at h
  · exact tabF_ok hl f as H w h Q hQ

/-- From the empty heap to any. -/
theorem Pure.of_nil {P : Program} {f : FuncId} {as : List AV} {v : AV} (h : CallsA P f as [] fun e _ => e = .ret v) (ha : LoL 0 as) (hv : Lo 0 v) (H : List AObj) : Pure P f as H v := by
  refine Pure.closed (CallsA.drop (h.mono fun e H' he => ?_)) ha hv H
  subst he
  exact ⟨[], H', rfl, rfl, by simp, ⟨rfl, rfl⟩, hv⟩

def isB (p : Bool → Prop) : EQ := fun e _ => match e with
  | .ret (.bool b) => p b
  | _ => False
theorem isB_ret {b : Bool} {e : AEnd} {H : List AObj} (h : isB (fun x => x = b) e H) : e = .ret (.bool b) := by
  unfold isB at h
  split at h
  · rw [h]
  · exact h.elim
theorem pureB {P : Program} (hent : EntAll P) (hmo : P.follows .mixedOrders = true) {t : GT} (ht : GOK P t) {hs : Hints} {k : Nat} {f : FuncId} {l : List AV} {b : Bool} (h : vBody P hs (V P (tabD t) (tabF t) hs k) f l [] (isB fun x => x = b)) (hl : LoL 0 l) (H : List AObj) : Pure P f l H (.bool b) :=
  Pure.of_nil ((callsA_v hent hmo (tabD_ok ht) (tabF_ok ht) h).mono fun e H' he => isB_ret he) hl (.bool b) H
/-- A value, up to tokens. -/
def isW (v : AV) : EQ := fun e _ => match e with
  | .ret w => Wk w v
  | _ => False
theorem pureW {P : Program} (hent : EntAll P) (hmo : P.follows .mixedOrders = true) {t : GT} (ht : GOK P t) {hs : Hints} {k : Nat} {f : FuncId} {l : List AV} {v : AV} (h : vBody P hs (V P (tabD t) (tabF t) hs k) f l [] (isW v)) (hl : LoL 0 l) (hv : Lo 0 v) (H : List AObj) : Pure P f l H v := by
  refine Pure.of_nil (CallsA.wk ((callsA_v hent hmo (tabD_ok ht) (tabF_ok ht) h).mono fun e H' he => ?_)) hl hv H
  unfold isW at he
  split at he
  · rename_i w
    exact ⟨w, v, rfl, he, rfl⟩
  · exact he.elim
theorem cond_dec {p : Prop} [Decidable p] {A B : Prop} : (cond (decide p) A B) = ((p → A) ∧ (¬ p → B)) := by
  by_cases h : p <;> simp [h]
theorem cond_bool {b : Bool} {A B : Prop} : (cond b A B) = ((b = true → A) ∧ (b = false → B)) := by
  cases b <;> simp
def noH : Hints := fun _ _ => noFH
end Go.Abs
