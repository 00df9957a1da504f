/- A symbolic run: codes, loops, calls, what calls leave behind. -/
import Derived.Test.YtjmedgagpheofaaGreatDoorVD
set_option linter.unusedSectionVars false
set_option linter.unusedVariables false
set_option linter.unusedSimpArgs false
set_option linter.constructorNameAsVariable false
namespace Go.Abs
open Go.RowKit
variable [Tabs]

abbrev Hints := FuncId → List AV → FH
abbrev IhV := FH → Code → Nat → Env → Dfs → List AObj → VK → Prop

def eqD (a b : Dfs) : Prop := a = b
def eqH (a b : List AObj) : Prop := a = b
@[simp] theorem eqD_rfl (a : Dfs) : eqD a a = True := by simp [eqD]
@[simp] theorem eqH_rfl (a : List AObj) : eqH a a = True := by simp [eqH]
def subE : Env → Env → Prop
  | [], _ => True
  | (t, v) :: l, E => match lookF t E with
    | some w => w = v ∧ subE l E
    | none => False
theorem subE_ok : ∀ {E0 E : Env}, subE E0 E → ∀ t v, look t E0 = some v → look t E = some v
  | [], E, h, t, v, hv => by simp [look] at hv
  | (u, w) :: E0, E, h, t, v, hv => by
    simp only [subE] at h
    split at h
    · rename_i x hx
      obtain ⟨rfl, h⟩ := h
      simp only [look] at hv
      split at hv
      · rename_i e; subst e
        simp only [Option.some.injEq] at hv; subst hv
        rw [← lookF_eq]; exact hx
      · exact subE_ok h t v hv
    · exact h.elim
def measLt (m : Option Nat) (k : Nat) : Prop := ∀ n, m = some n → k < n
@[simp] theorem measLt_none (k : Nat) : measLt none k = True := by simp [measLt]
@[simp] theorem measLt_some (m k : Nat) : measLt (some m) k = (k < m) := by simp [measLt]
/-- One of the ways in which a loop's head may stand. -/
def vHold (m : Option Nat) : List LInv → Env → List AObj → Prop
  | [], _, _ => False
  | [i], E, H => ∃ x : i.X, i.ok x ∧ measLt m (i.meas x) ∧ eqH H (i.heap x) ∧ subE (i.env x) E
  | i :: l, E, H => (∃ x : i.X, i.ok x ∧ measLt m (i.meas x) ∧ eqH H (i.heap x) ∧ subE (i.env x) E) ∨ vHold m l E H
theorem vHold_ok {m : Option Nat} : ∀ {l : List LInv} {E : Env} {H : List AObj}, vHold m l E H → ∃ i ∈ l, ∃ x : i.X, i.ok x ∧ (∀ k, m = some k → i.meas x < k) ∧ (∀ t v, look t (i.env x) = some v → look t E = some v) ∧ H = i.heap x := by
  have one : ∀ {i : LInv} {E : Env} {H : List AObj}, (∃ x : i.X, i.ok x ∧ measLt m (i.meas x) ∧ eqH H (i.heap x) ∧ subE (i.env x) E) → ∃ x : i.X, i.ok x ∧ (∀ k, m = some k → i.meas x < k) ∧ (∀ t v, look t (i.env x) = some v → look t E = some v) ∧ H = i.heap x := by
    rintro i E H ⟨x, h1, h2, h3, h4⟩
    exact ⟨x, h1, h2, subE_ok h4, h3⟩
  intro l
  induction l with
  | nil => intro E H h; exact h.elim
  | cons i l ih =>
    intro E H h
    cases l with
    | nil => exact ⟨i, by simp, one h⟩
    | cons j l =>
      rcases h with h | h
      · exact ⟨i, by simp, one h⟩
      · obtain ⟨i', hi, rest⟩ := ih h
        exact ⟨i', List.mem_cons_of_mem _ hi, rest⟩
def vAll (p : LInv → Prop) : List LInv → Prop
  | [] => True
  | [i] => p i
  | i :: l => p i ∧ vAll p l
theorem vAll_ok {p : LInv → Prop} : ∀ {l : List LInv}, vAll p l → ∀ i ∈ l, p i
  | [], _, i, hi => by simp at hi
  | [j], h, i, hi => by simp only [List.mem_singleton] at hi; subst hi; exact h
  | j :: k :: l, h, i, hi => by
    rcases List.mem_cons.1 hi with rfl | hi
    · exact h.1
    · exact vAll_ok (l := k :: l) h.2 i hi

def firstId : Code → Option Nat
  | .region id _ _ => some id
  | .seq a b => match firstId a with
    | some i => some i
    | none => firstId b
  | .block _ c => firstId c
  | .loop c => firstId c
  | .scope c => firstId c
  | _ => none
def loopOf (h : FH) (c : Code) : Option (List LInv) := match firstId c with
  | some i => h.inv i
  | none => none
/-- What is told of the end of a part of a code. -/
def cutOf (h : FH) (E : Env) : Code → Option (List LInv)
  | .region id _ _ => h.cut id E
  | c => match firstId c with
    | some i => h.join i E
    | none => none

/-! ### Calls -/
def vFin (P : Program) (fn : Func) (E : Env) (Q : EQ) (p : Option AV) (H : List AObj) : Prop := match p with
  | none => match xResults P E H fn.results.toList with
    | some v => Q (.ret v) H
    | none => False
  | some v => Q (.panic v) H
def vDK (P : Program) (fn : Func) (p pr : Option AV) (F : Option AV → List AObj → Prop) : VK := fun e E D H => match D with
  | [] => match e with
    | .normal => match xResults P E H fn.results.toList with
      | some _ => F pr H
      | none => False
    | .ret => match xResults P E H fn.results.toList with
      | some _ => F pr H
      | none => False
    | .panic v => match p with
      | none => F (some v) H
      | some _ => False
    | _ => False
  | _ => False
def vDeferred (P : Program) (hs : Hints) (R : IhV) (f : FuncId) (as : List AV) (p : Option AV) (H : List AObj) (F : Option AV → List AObj → Prop) : Prop :=
  match P.funcs[f]? with
  | some fn => match fn.body with
    | some c => bif Nat.ble as.length fn.ntmps then (match recTop fn.ntmps c with
      | some (d, rest) => R (hs f as) rest fn.ntmps ((d, p.getD .nili) :: envF 0 as) [] H (vDK P fn p none F)
      | none => R (hs f as) c fn.ntmps (envF 0 as) [] H (vDK P fn p p F)) else False
    | none => False
  | none => False
def vLeave (P : Program) (hs : Hints) (R : IhV) (F : Option AV → List AObj → Prop) : Dfs → Option AV → List AObj → Prop
  | [], p, H => F p H
  | (f, as) :: D, p, H => vDeferred P hs R f as p H fun p' H' => vLeave P hs R F D p' H'
def vBK (P : Program) (hs : Hints) (R : IhV) (fn : Func) (Q : EQ) : VK := fun e E D H => match e with
  | .normal => vLeave P hs R (vFin P fn E Q) D none H
  | .ret => vLeave P hs R (vFin P fn E Q) D none H
  | .panic v => vLeave P hs R (vFin P fn E Q) D (some v) H
  | _ => False
def vBody (P : Program) (hs : Hints) (R : IhV) (f : FuncId) (as : List AV) (H : List AObj) (Q : EQ) : Prop :=
  match P.funcs[f]? with
  | some fn => match fn.body with
    | some c => bif Nat.ble as.length fn.ntmps then R (hs f as) c fn.ntmps (envF 0 as) [] H (vBK P hs R fn Q) else False
    | none => False
  | none => False
def vCall (P : Program) (C : VCF) (hs : Hints) (R : IhV) (f : FuncId) (as : List AV) (H : List AObj) (Q : EQ) : Prop := match C f as H with
  | some w => w Q
  | none => vBody P hs R f as H Q

/-! ### Codes -/
def vStep (P : Program) (CD : VCD) (C : VCF) (hs : Hints) (ih : IhV) (h : FH) (c : Code) (n : Nat) (E : Env) (D : Dfs) (H : List AObj) (K : VK) : Prop :=
  match c with
  | .skip => K .normal E D H
  | .exit id => K (.exit id) E D H
  | .goto l => K (.goto l) E D H
  | .ret => K .ret E D H
  | .label _ => K .normal E D H
  | .seq a b => match cutOf h E a with
    | none => ih h a n E D H fun e E1 D1 H1 => match e with
      | .normal => ih h b n E1 D1 H1 K
      | e => K e E1 D1 H1
    | some l => (ih h a n E D H fun e E1 D1 H1 => match e with
      | .normal => eqD D1 D ∧ vHold none l E1 H1
      | e => K e E1 D1 H1) ∧ vAll (fun i => ∀ x : i.X, i.ok x → ih h b n (i.env x) D (i.heap x) K) l
  | .cond x a b => match evE E x with
    | some (.bool t) => cond t (ih h a n E D H K) (ih h b n E D H K)
    | _ => False
  | .block id c => ih h c n E D H fun e E1 D1 H1 => match e with
    | .exit id' => bif Nat.beq id' id then K .normal E1 D1 H1 else K (.exit id') E1 D1 H1
    | e => K e E1 D1 H1
  | .loop c => match loopOf h c with
    | some l => vHold none l E H ∧ vAll (fun i => ∀ x : i.X, i.ok x → ih h c n (i.env x) D (i.heap x) fun e E1 D1 H1 => match e with
        | .normal => eqD D1 D ∧ vHold (some (i.meas x)) l E1 H1
        | e => K e E1 D1 H1) l
    | none => ih h c n E D H fun e E1 D1 H1 => match e with
      | .normal => match restrictE E E1 with
        | some E2 => ih h (.loop c) n E2 D1 H1 K
        | none => False
      | e => K e E1 D1 H1
  | .region _ ops draw => match draw with
    | true => vRegion P CD ops n E D H K
    | false => vOps P h (vCall P C hs ih) ops n K (List.range ops.size) E D H
  | .scope c => ih h c n E D H fun e E1 D1 H1 => match e with
    | .goto l => match findLabel c l with
      | some rest => ih h rest n E1 D1 H1 fun e E2 D2 H2 => match e with
        | .goto _ => False
        | e => K e E2 D2 H2
      | none => False
    | e => K e E1 D1 H1
  | _ => False
def V (P : Program) (CD : VCD) (C : VCF) (hs : Hints) : Nat → IhV
  | 0 => fun _ _ _ _ _ _ _ => False
  | k + 1 => vStep P CD C hs (V P CD C hs k)

section
variable {P : Program}
def IhVOK (P : Program) (ih : IhV) : Prop := ∀ h c n E D H K, ih h c n E D H K → ACode P c (QK K n) ⟨E, D, n, H⟩ ∧ ∀ c', c = .loop c' → ALoop P c' (QK K n) ⟨E, D, n, H⟩

theorem vDeferred_ok (hent : EntAll P) {hs : Hints} {R : IhV} (hR : IhVOK P R) {f : FuncId} {as : List AV} {p : Option AV} {H : List AObj} {F : Option AV → List AObj → Prop} (h : vDeferred P hs R f as p H F) : Ent P f ∧ DefA P f as p H F := by
  unfold vDeferred at h
  split at h
  · rename_i fn hf
    split at h
    · rename_i c hb
      replace h := bif_false h
      obtain ⟨hsz, h⟩ := h
      have hsz := Nat.le_of_ble_eq_true hsz
      refine ⟨hent f fn hf (by rw [hb]; rfl), ?_⟩
      have post : ∀ {pr : Option AV} {e : AExit} {s : ASt}, QK (vDK P fn p pr F) fn.ntmps e s → fnPost P fn (fun e H' => match e with
          | .ret _ => F pr H'
          | .panic v => p = none ∧ F (some v) H') e s := by
        rintro pr e ⟨E, D, n, H⟩ ⟨hn, h⟩
        have hn : n = fn.ntmps := hn
        subst hn
        unfold vDK at h
        simp only at h
        split at h
        · split at h
          · split at h
            · rename_i v hv
              exact ⟨rfl, v, xResults_ok (s := ⟨E, [], fn.ntmps, H⟩) hv, h⟩
            · exact h.elim
          · split at h
            · rename_i v hv
              exact ⟨rfl, v, xResults_ok (s := ⟨E, [], fn.ntmps, H⟩) hv, h⟩
            · exact h.elim
          · split at h
            · exact ⟨rfl, rfl, h⟩
            · exact h.elim
          · exact h.elim
        · exact h.elim
      split at h
      · rename_i d rest hrec
        obtain ⟨id, ops, o, rfl, hops, hro, hd, hdn⟩ := recTop_ok hrec
        rw [envF_eq] at h
        exact defA_rec hf hb hops hro hd hdn hsz ((hR _ _ _ _ _ _ _ h).1.mono fun e s => post)
      · rw [envF_eq] at h
        exact defA_of hf hb hsz ((hR _ _ _ _ _ _ _ h).1.mono fun e s => post)
    · exact h.elim
  · exact h.elim

theorem vLeave_ok (hent : EntAll P) {hs : Hints} {R : IhV} (hR : IhVOK P R) {F : Option AV → List AObj → Prop} : ∀ {D : Dfs} {p : Option AV} {H : List AObj}, vLeave P hs R F D p H → LeaveA P F D p H
  | [], _, _, h => h
  | (f, as) :: D, p, H, h => by
    obtain ⟨h1, h2⟩ := vDeferred_ok hent hR h
    refine ⟨h1, ⟨fun G W vs u hv r hm => (h2.out G W vs u hv r hm).mono fun e u' W' hx => ?_⟩⟩
    cases e with
    | returned v => obtain ⟨p', H', G', q, rest⟩ := hx; exact ⟨p', H', G', vLeave_ok hent hR q, rest⟩
    | panicked ch => obtain ⟨p', H', G', q, rest⟩ := hx; exact ⟨p', H', G', vLeave_ok hent hR q, rest⟩
    | outgrown => exact hx

theorem vBody_ok (hent : EntAll P) {hs : Hints} {R : IhV} (hR : IhVOK P R) {f : FuncId} {as : List AV} {H : List AObj} {Q : EQ} (h : vBody P hs R f as H Q) : Ent P f ∧ CallsA P f as H Q := by
  unfold vBody at h
  split at h
  · rename_i fn hf
    split at h
    · rename_i c hb
      replace h := bif_false h
      obtain ⟨hsz, h⟩ := h
      have hsz := Nat.le_of_ble_eq_true hsz
      refine ⟨hent f fn hf (by rw [hb]; rfl), ?_⟩
      rw [envF_eq] at h
      refine callsA_of_defers hf hb hsz ((hR _ _ _ _ _ _ _ h).1.mono ?_)
      rintro e ⟨E, D, n, H'⟩ ⟨hn, h⟩
      have hn : n = fn.ntmps := hn
      subst hn
      have fin : ∀ p H, vFin P fn E Q p H → EndQ P fn E fn.ntmps Q p H := by
        intro p H h
        unfold vFin at h
        split at h
        · split at h
          · rename_i v hv
            exact ⟨v, xResults_ok (s := ⟨E, [], fn.ntmps, H⟩) hv, h⟩
          · exact h.elim
        · exact h
      cases e with
      | normal => exact ⟨rfl, (vLeave_ok hent hR h).mono fin⟩
      | ret => exact ⟨rfl, (vLeave_ok hent hR h).mono fin⟩
      | panic v => exact ⟨rfl, (vLeave_ok hent hR h).mono fin⟩
      | exit id => exact h.elim
      | goto l => exact h.elim
    · exact h.elim
  · exact h.elim

theorem vCall_ok (hent : EntAll P) {C : VCF} (hC : VCFOK P C) {hs : Hints} {R : IhV} (hR : IhVOK P R) {f : FuncId} {as : List AV} {H : List AObj} {Q : EQ} (h : vCall P C hs R f as H Q) : InvA P f as H Q := by
  unfold vCall at h
  split at h
  · rename_i w hw
    exact hC _ _ _ _ hw Q h
  · exact .inl (vBody_ok hent hR h)

theorem aloop {c : Code} {Q : APost} (I : Nat → ASt → Prop) (round : ∀ n s, I n s → ACode P c (AThen (fun s' => ∃ m, m < n ∧ I m s') Q) s) : ∀ {n : Nat} {s : ASt}, I n s → ALoop P c Q s := by
  intro n
  induction n using Nat.strongRecOn with
  | _ n ih =>
    intro s h0
    refine ALoop.round ((round n s h0).mono ?_)
    intro e s' h
    cases e with
    | normal =>
      obtain ⟨m, hm, hI⟩ := h
      exact ih m hm hI
    | exit id => exact h
    | goto l => exact h
    | ret => exact h
    | panic v => exact h

theorem vStep_ok (hent : EntAll P) (hmo : P.follows .mixedOrders = true) {CD : VCD} (hCD : VCDOK P CD) {C : VCF} (hC : VCFOK P C) {hs : Hints} {ih : IhV} (hih : IhVOK P ih) : IhVOK P (vStep P CD C hs ih) := by
  intro fh c n E D H K h
  cases c with
  | skip => exact ⟨c_skip ⟨rfl, h⟩, by simp⟩
  | exit id => exact ⟨c_exit ⟨rfl, h⟩, by simp⟩
  | goto l => exact ⟨c_goto ⟨rfl, h⟩, by simp⟩
  | ret => exact ⟨c_ret ⟨rfl, h⟩, by simp⟩
  | label l => exact ⟨c_label ⟨rfl, h⟩, by simp⟩
  | refuse w => exact h.elim
  | rangeFunc _ _ _ _ => exact h.elim
  | seq a b =>
    simp only [vStep] at h
    split at h
    · refine ⟨c_seq ((hih _ _ _ _ _ _ _ h).1.mono ?_), by simp⟩
      rintro e ⟨E1, D1, n1, H1⟩ ⟨hn, h⟩
      have hn : n1 = n := hn
      subst hn
      cases e with
      | normal => exact (hih _ _ _ _ _ _ _ h).1
      | exit id => exact ⟨rfl, h⟩
      | goto l => exact ⟨rfl, h⟩
      | ret => exact ⟨rfl, h⟩
      | panic v => exact ⟨rfl, h⟩
    · rename_i l hl
      obtain ⟨h1, h2⟩ := h
      have h2 := vAll_ok h2
      refine ⟨c_seq ((hih _ _ _ _ _ _ _ h1).1.mono ?_), by simp⟩
      rintro e ⟨E1, D1, n1, H1⟩ ⟨hn, hq⟩
      have hn : n1 = n := hn
      subst hn
      cases e with
      | normal =>
        obtain ⟨hD, hq⟩ := hq
        have hD : D1 = D := hD
        subst hD
        obtain ⟨i, hi, x, hx, _, he, hH⟩ := vHold_ok hq
        have hH : H1 = i.heap x := hH
        subst hH
        exact c_env (s' := ⟨i.env x, D1, n1, i.heap x⟩) (hih _ _ _ _ _ _ _ (h2 i hi x hx)).1 rfl rfl rfl he
      | exit id => exact ⟨rfl, hq⟩
      | goto l => exact ⟨rfl, hq⟩
      | ret => exact ⟨rfl, hq⟩
      | panic v => exact ⟨rfl, hq⟩
  | cond x a b =>
    simp only [vStep] at h
    split at h
    · rename_i t ht
      have hev : (⟨E, D, n, H⟩ : ASt).ev x = some (.bool t) := evE_ev (fun _ _ h => h) ht
      refine ⟨c_cond hev ?_ ?_, by simp⟩
      · rintro rfl; exact (hih _ _ _ _ _ _ _ h).1
      · rintro rfl; exact (hih _ _ _ _ _ _ _ h).1
    · exact h.elim
  | block id a =>
    simp only [vStep] at h
    refine ⟨c_block ((hih _ _ _ _ _ _ _ h).1.mono ?_), by simp⟩
    rintro e ⟨E1, D1, n1, H1⟩ ⟨hn, h⟩
    have hn : n1 = n := hn
    subst hn
    cases e with
    | exit id' =>
      simp only [AInBlock]
      split
      · rename_i e; subst e
        simp at h
        exact ⟨rfl, h⟩
      · rename_i e
        have : Nat.beq id' id = false := by
          cases hb : Nat.beq id' id with
          | false => rfl
          | true => exact absurd (Nat.eq_of_beq_eq_true hb) e
        simp only [this, cond_false] at h
        exact ⟨rfl, h⟩
    | normal => exact ⟨rfl, h⟩
    | goto l => exact ⟨rfl, h⟩
    | ret => exact ⟨rfl, h⟩
    | panic v => exact ⟨rfl, h⟩
  | loop a =>
    have key : ALoop P a (QK K n) ⟨E, D, n, H⟩ := by
      simp only [vStep] at h
      split at h
      · rename_i l hl
        obtain ⟨h0, h1⟩ := h
        have h1 := vAll_ok h1
        obtain ⟨i0, hi0, x0, hx0, _, he0, hH0⟩ := vHold_ok h0
        refine aloop (fun k s => s.defs = D ∧ s.n = n ∧ ∃ i ∈ l, ∃ x : i.X, i.ok x ∧ i.meas x = k ∧ (∀ t v, look t (i.env x) = some v → look t s.env = some v) ∧ s.H = i.heap x) ?_ (n := i0.meas x0) ⟨rfl, rfl, i0, hi0, x0, hx0, rfl, he0, hH0⟩
        rintro k ⟨E1, D1, n1, H1⟩ ⟨hD, hn, i, hi, x, hx, rfl, he, hH⟩
        have hD : D1 = D := hD
        have hn : n1 = n := hn
        have hH : H1 = i.heap x := hH
        subst hD hn hH
        refine c_env (s' := ⟨i.env x, D1, n1, i.heap x⟩) ((hih _ _ _ _ _ _ _ (h1 i hi x hx)).1.mono ?_) rfl rfl rfl he
        rintro e ⟨E2, D2, n2, H2⟩ ⟨hn, h⟩
        have hn : n2 = n1 := hn
        subst hn
        cases e with
        | normal =>
          obtain ⟨hD, h⟩ := h
          obtain ⟨j, hj, y, hy, hm, he', hH'⟩ := vHold_ok h
          exact ⟨j.meas y, hm _ rfl, hD, rfl, j, hj, y, hy, rfl, he', hH'⟩
        | exit id => exact ⟨rfl, h⟩
        | goto l => exact ⟨rfl, h⟩
        | ret => exact ⟨rfl, h⟩
        | panic v => exact ⟨rfl, h⟩
      · refine ALoop.round ((hih _ _ _ _ _ _ _ h).1.mono ?_)
        rintro e ⟨E1, D1, n1, H1⟩ ⟨hn, h⟩
        have hn : n1 = n := hn
        subst hn
        cases e with
        | normal =>
          simp only at h
          split at h
          · rename_i E2 hE2
            exact ((hih _ _ _ _ _ _ _ h).2 a rfl).env rfl rfl rfl (restrictE_ok hE2)
          · exact h.elim
        | exit id => exact ⟨rfl, h⟩
        | goto l => exact ⟨rfl, h⟩
        | ret => exact ⟨rfl, h⟩
        | panic v => exact ⟨rfl, h⟩
    exact ⟨key.code, fun c' hc => by cases hc; exact key⟩
  | region id ops draw =>
    simp only [vStep] at h
    split at h
    · exact ⟨vRegion_ok hmo hCD h, by simp⟩
    · exact ⟨c_region (vOps_ok (fun f as H Q h => vCall_ok hent hC hih h) h), by simp⟩
  | scope a =>
    simp only [vStep] at h
    refine ⟨c_scope ((hih _ _ _ _ _ _ _ h).1.mono ?_), by simp⟩
    rintro e ⟨E1, D1, n1, H1⟩ ⟨hn, h⟩
    have hn : n1 = n := hn
    subst hn
    cases e with
    | goto l =>
      simp only at h
      split at h
      · rename_i rest hrest
        refine ⟨rest, hrest, (hih _ _ _ _ _ _ _ h).1.mono ?_⟩
        rintro e ⟨E2, D2, n2, H2⟩ ⟨hn, h⟩
        have hn : n2 = n1 := hn
        subst hn
        cases e with
        | goto l => exact h.elim
        | normal => exact ⟨rfl, h⟩
        | exit id => exact ⟨rfl, h⟩
        | ret => exact ⟨rfl, h⟩
        | panic v => exact ⟨rfl, h⟩
      · exact h.elim
    | normal => exact ⟨rfl, h⟩
    | exit id => exact ⟨rfl, h⟩
    | ret => exact ⟨rfl, h⟩
    | panic v => exact ⟨rfl, h⟩

theorem V_ok (hent : EntAll P) (hmo : P.follows .mixedOrders = true) {CD : VCD} (hCD : VCDOK P CD) {C : VCF} (hC : VCFOK P C) {hs : Hints} : ∀ k, IhVOK P (V P CD C hs k)
  | 0 => fun _ _ _ _ _ _ _ h => h.elim
  | k + 1 => vStep_ok hent hmo hCD hC (V_ok hent hmo hCD hC k)

/-- A call, by its conditions. -/
theorem callsA_v (hent : EntAll P) (hmo : P.follows .mixedOrders = true) {CD : VCD} (hCD : VCDOK P CD) {C : VCF} (hC : VCFOK P C) {hs : Hints} {k : Nat} {f : FuncId} {as : List AV} {H : List AObj} {Q : EQ} (h : vBody P hs (V P CD C hs k) f as H Q) : CallsA P f as H Q :=
  (vBody_ok hent (V_ok hent hmo hCD hC k) h).2
end
end Go.Abs
