/- The abstract layer, made to run: what the run says is so. -/
import Derived.Test.YtjmedgagpheofaaGreatDoorXB
set_option linter.unusedSectionVars false
set_option linter.unusedVariables false
set_option linter.unusedSimpArgs false
set_option linter.constructorNameAsVariable false
namespace Go.Abs
open Go.RowKit
variable [Tabs]

section
variable {P : Program}

structure Good (P : Program) (c : Code) (n : Nat) (E : Env) (D : Dfs) (H : List AObj) (r : XR) : Prop where
  same : Same r.low H r.H
  code : ACode P c (QX r n) ⟨E, D, n, H⟩
  loop : ∀ c', c = .loop c' → ALoop P c' (QX r n) ⟨E, D, n, H⟩
def IhOK (P : Program) (ih : IhF) : Prop := ∀ c n E D H r, ih c n E D H = some r → Good P c n E D H r

theorem recTop_ok {n : Nat} {c : Code} {d : Nat} {rest : Code} (h : recTop n c = some (d, rest)) : ∃ id ops o, c = .seq (.region id ops false) rest ∧ ops = #[o] ∧ recOp o = true ∧ o.dst = some d ∧ d < n := by
  unfold recTop at h
  split at h
  · rename_i id ops rest'
    split at h
    · rename_i o ho
      split at h
      · rename_i d' hd
        obtain ⟨h1, h⟩ := bif_some h
        simp only [Bool.and_eq_true] at h1
        simp only [Option.some.injEq, Prod.mk.injEq] at h
        obtain ⟨rfl, rfl⟩ := h
        exact ⟨id, ops, o, rfl, by apply Array.ext'; simpa using ho, h1.1, hd, blt_lt h1.2⟩
      · simp at h
    · simp at h
  · simp at h

theorem xDeferred_ok (hent : EntAll P) {ih : IhF} (hih : IhOK P ih) {f : FuncId} {as : List AV} {p p' : Option AV} {H H' : List AObj} {low : Nat} (h : xDeferred P ih f as p H = some (p', H', low)) :
    Same low H H' ∧ Ent P f ∧ DefA P f as p H fun p2 H2 => p2 = p' ∧ H2 = H' := by
  unfold xDeferred at h
  split at h
  · rename_i fn hf
    split at h
    · rename_i c hb
      replace h := bif_some h
      obtain ⟨hs, h⟩ := h
      have hs := Nat.le_of_ble_eq_true hs
      have he := hent f fn hf (by rw [hb]; rfl)
      split at h
      · rename_i d rest hrec
        obtain ⟨id, ops, o, rfl, hops, hro, hd, hdn⟩ := recTop_ok hrec
        split at h
        · rename_i e E D H1 low1 hr
          have g := hih _ _ _ _ _ _ hr
          rw [envF_eq] at g
          split at h
          · split at h
            · split at h
              · rename_i v hv
                simp only [Option.some.injEq, Prod.mk.injEq] at h
                obtain ⟨rfl, rfl, rfl⟩ := h
                refine ⟨g.same, he, defA_rec hf hb hops hro hd hdn hs (g.code.mono ?_)⟩
                rintro e s ⟨rfl, rfl⟩
                exact ⟨rfl, v, xResults_ok (s := ⟨E, [], fn.ntmps, H1⟩) hv, rfl, rfl⟩
              · simp at h
            · split at h
              · rename_i v hv
                simp only [Option.some.injEq, Prod.mk.injEq] at h
                obtain ⟨rfl, rfl, rfl⟩ := h
                refine ⟨g.same, he, defA_rec hf hb hops hro hd hdn hs (g.code.mono ?_)⟩
                rintro e s ⟨rfl, rfl⟩
                exact ⟨rfl, v, xResults_ok (s := ⟨E, [], fn.ntmps, H1⟩) hv, rfl, rfl⟩
              · simp at h
            · split at h
              · simp only [Option.some.injEq, Prod.mk.injEq] at h
                obtain ⟨rfl, rfl, rfl⟩ := h
                refine ⟨g.same, he, defA_rec hf hb hops hro hd hdn hs (g.code.mono ?_)⟩
                rintro e s ⟨rfl, rfl⟩
                exact ⟨rfl, rfl, rfl, rfl⟩
              · simp at h
            · simp at h
          · simp at h
        · simp at h
      · split at h
        · rename_i e E D H1 low1 hr
          have g := hih _ _ _ _ _ _ hr
          rw [envF_eq] at g
          split at h
          · split at h
            · split at h
              · rename_i v hv
                simp only [Option.some.injEq, Prod.mk.injEq] at h
                obtain ⟨rfl, rfl, rfl⟩ := h
                refine ⟨g.same, he, defA_of hf hb hs (g.code.mono ?_)⟩
                rintro e s ⟨rfl, rfl⟩
                exact ⟨rfl, v, xResults_ok (s := ⟨E, [], fn.ntmps, H1⟩) hv, rfl, rfl⟩
              · simp at h
            · split at h
              · rename_i v hv
                simp only [Option.some.injEq, Prod.mk.injEq] at h
                obtain ⟨rfl, rfl, rfl⟩ := h
                refine ⟨g.same, he, defA_of hf hb hs (g.code.mono ?_)⟩
                rintro e s ⟨rfl, rfl⟩
                exact ⟨rfl, v, xResults_ok (s := ⟨E, [], fn.ntmps, H1⟩) hv, rfl, rfl⟩
              · simp at h
            · split at h
              · simp only [Option.some.injEq, Prod.mk.injEq] at h
                obtain ⟨rfl, rfl, rfl⟩ := h
                refine ⟨g.same, he, defA_of hf hb hs (g.code.mono ?_)⟩
                rintro e s ⟨rfl, rfl⟩
                exact ⟨rfl, rfl, rfl, rfl⟩
              · simp at h
            · simp at h
          · simp at h
        · simp at h
    · simp at h
  · simp at h

theorem xLeave_ok (hent : EntAll P) {ih : IhF} (hih : IhOK P ih) : ∀ {D : Dfs} {p : Option AV} {H : List AObj} {low : Nat} {p' : Option AV} {H' : List AObj} {low' : Nat} {H0 : List AObj}, xLeave P ih D p H low = some (p', H', low') → Same low H0 H → Same low' H0 H' ∧ LeaveA P (fun p2 H2 => p2 = p' ∧ H2 = H') D p H
  | [], p, H, low, p', H', low', H0, h, hs => by
    simp only [xLeave, Option.some.injEq, Prod.mk.injEq] at h
    obtain ⟨rfl, rfl, rfl⟩ := h
    exact ⟨hs, rfl, rfl⟩
  | (f, as) :: D, p, H, low, p', H', low', H0, h, hs => by
    simp only [xLeave] at h
    split at h
    · rename_i p1 H1 low1 h1
      obtain ⟨i1, i2, i3⟩ := xDeferred_ok hent hih h1
      obtain ⟨j1, j2⟩ := xLeave_ok hent hih h (hs.trans i1)
      refine ⟨j1, i2, ⟨fun G W vs u hv r hm => (i3.out G W vs u hv r hm).mono fun e u' W' hx => ?_⟩⟩
      cases e with
      | returned v => obtain ⟨p2, H2, G', ⟨rfl, rfl⟩, rest⟩ := hx; exact ⟨_, _, G', j2, rest⟩
      | panicked ch => obtain ⟨p2, H2, G', ⟨rfl, rfl⟩, rest⟩ := hx; exact ⟨_, _, G', j2, rest⟩
      | outgrown => exact hx
    · simp at h

theorem xCallB_ok (hent : EntAll P) {ih : IhF} (hih : IhOK P ih) {f : FuncId} {as : List AV} {H : List AObj} {r : AEnd × List AObj × Nat} (h : xCallB P ih f as H = some r) : (∀ e2 H2 low2, r = (e2, H2, low2) → Same low2 H H2 ∧ CallsA P f as H fun e' H'' => e' = e2 ∧ H'' = H2) ∧ ∃ fn, P.funcs[f]? = some fn ∧ fn.body.isSome = true := by
  unfold xCallB at h
  split at h
  · rename_i fn hf
    split at h
    · rename_i c hb
      refine ⟨?_, fn, hf, by rw [hb]; rfl⟩
      replace h := bif_some h
      obtain ⟨hs, h⟩ := h
      have hs := Nat.le_of_ble_eq_true hs
      split at h
      · rename_i e E D H1 low1 hr
        have g := hih _ _ _ _ _ _ hr
        rw [envF_eq] at g
        dsimp only at h
        have key : ∀ (p : Option AV), (match xLeave P ih D p H1 low1 with
            | some q => match xEnd P fn E q with
              | some r => dropX H.length r
              | none => none
            | none => none) = some r → (e = .normal ∧ p = none ∨ e = .ret ∧ p = none ∨ ∃ v, e = .panic v ∧ p = some v) →
            ∀ e2 H2 low2, r = (e2, H2, low2) → Same low2 H H2 ∧ CallsA P f as H fun e' H'' => e' = e2 ∧ H'' = H2 := by
          intro p h hep
          split at h
          · rename_i q hq
            obtain ⟨p', H', low'⟩ := q
            split at h
            · rename_i r' hr'
              obtain ⟨j1, j2⟩ := xLeave_ok hent hih hq g.same
              have fin : ∀ (ae : AEnd), r' = (ae, H', low') → (∀ (Q : AEnd → List AObj → Prop), Q ae H' → LeaveA P (EndQ P fn E fn.ntmps Q) D p H1) → ∀ e2 H2 low2, r = (e2, H2, low2) → Same low2 H H2 ∧ CallsA P f as H fun e' H'' => e' = e2 ∧ H'' = H2 := by
                rintro ae rfl hae
                refine dropX_ok h j1 (callsA_of_defers hf hb hs (g.code.mono ?_))
                rintro e' s ⟨rfl, rfl⟩
                rcases hep with ⟨rfl, rfl⟩ | ⟨rfl, rfl⟩ | ⟨v, rfl, rfl⟩
                · exact ⟨rfl, hae _ ⟨rfl, rfl⟩⟩
                · exact ⟨rfl, hae _ ⟨rfl, rfl⟩⟩
                · exact ⟨rfl, hae _ ⟨rfl, rfl⟩⟩
              cases p' with
              | none =>
                simp only [xEnd] at hr'
                split at hr'
                · rename_i v hv
                  simp only [Option.some.injEq] at hr'
                  refine fin (.ret v) hr'.symm fun Q hQ => j2.mono ?_
                  rintro p2 H2 ⟨rfl, rfl⟩
                  exact ⟨v, xResults_ok (s := ⟨E, [], fn.ntmps, _⟩) hv, hQ⟩
                · simp at hr'
              | some v =>
                simp only [xEnd, Option.some.injEq] at hr'
                refine fin (.panic v) hr'.symm fun Q hQ => j2.mono ?_
                rintro p2 H2 ⟨rfl, rfl⟩
                exact hQ
            · simp at h
          · simp at h
        cases e with
        | normal => exact key none h (.inl ⟨rfl, rfl⟩)
        | ret => exact key none h (.inr (.inl ⟨rfl, rfl⟩))
        | panic v => exact key (some v) h (.inr (.inr ⟨v, rfl, rfl⟩))
        | exit id => simp at h
        | goto l => simp at h
      · simp at h
    · simp at h
  · simp at h

theorem xCall_ok (hent : EntAll P) {T : CallF} (hT : CallHyp P T) {ih : IhF} (hih : IhOK P ih) : CallHyp P (xCall P T ih) := by
  refine ⟨?_⟩
  intro f as H e H' low h
  unfold xCall at h
  split at h
  · rename_i r hr
    simp only [Option.some.injEq] at h; subst h
    exact hT.ok _ _ _ _ _ _ hr
  · have h1 := xCallB_ok hent hih h
    obtain ⟨fn, hf, hb⟩ := h1.2
    have h2 := h1.1 _ _ _ rfl
    exact ⟨h2.1, .inl ⟨hent _ _ hf hb, h2.2⟩⟩

theorem xStep_ok (hent : EntAll P) (hmo : P.follows .mixedOrders = true) {T : CallF} (hT : CallHyp P T) {ih : IhF} (hih : IhOK P ih) : IhOK P (xStep P T ih) := by
  intro c n E D H r h
  cases c with
  | skip =>
    simp only [xStep, Option.some.injEq] at h; subst h
    exact ⟨Same.refl _, c_skip ⟨rfl, rfl⟩, by simp⟩
  | exit id =>
    simp only [xStep, Option.some.injEq] at h; subst h
    exact ⟨Same.refl _, c_exit ⟨rfl, rfl⟩, by simp⟩
  | goto l =>
    simp only [xStep, Option.some.injEq] at h; subst h
    exact ⟨Same.refl _, c_goto ⟨rfl, rfl⟩, by simp⟩
  | ret =>
    simp only [xStep, Option.some.injEq] at h; subst h
    exact ⟨Same.refl _, c_ret ⟨rfl, rfl⟩, by simp⟩
  | label l =>
    simp only [xStep, Option.some.injEq] at h; subst h
    exact ⟨Same.refl _, c_label ⟨rfl, rfl⟩, by simp⟩
  | refuse w => simp [xStep] at h
  | rangeFunc f ps a b => simp [xStep] at h
  | seq a b =>
    simp only [xStep] at h
    split at h
    · rename_i e E1 D1 H1 low h1
      have g1 := hih _ _ _ _ _ _ h1
      split at h
      · split at h
        · rename_i e2 E2 D2 H2 low2 h2
          have g2 := hih _ _ _ _ _ _ h2
          simp only [Option.some.injEq] at h; subst h
          refine ⟨g1.same.trans g2.same, c_seq (g1.code.mono ?_), by simp⟩
          rintro e s ⟨rfl, rfl⟩
          exact g2.code.mono fun e s he => he
        · simp at h
      · rename_i hne
        simp only [Option.some.injEq] at h; subst h
        refine ⟨g1.same, c_seq (g1.code.mono ?_), by simp⟩
        rintro e' s ⟨rfl, rfl⟩
        rw [AThen.not_normal (fun h => hne h)]
        exact ⟨rfl, rfl⟩
    · simp at h
  | cond x a b =>
    simp only [xStep] at h
    split at h
    · rename_i t ht
      have hev : (⟨E, D, n, H⟩ : ASt).ev x = some (.bool t) := evE_ev (fun _ _ h => h) ht
      split at h
      · have g := hih _ _ _ _ _ _ h
        exact ⟨g.same, c_cond hev (fun _ => g.code) (fun h => by cases h), by simp⟩
      · have g := hih _ _ _ _ _ _ h
        exact ⟨g.same, c_cond hev (fun h => by cases h) (fun _ => g.code), by simp⟩
    · simp at h
  | block id a =>
    simp only [xStep] at h
    split at h
    · rename_i e E1 D1 H1 low h1
      have g1 := hih _ _ _ _ _ _ h1
      split at h
      · rename_i id'
        cases hb : Nat.beq id' id with
        | true =>
          have := Nat.eq_of_beq_eq_true hb
          subst this
          rw [hb] at h
          simp only [cond_true, Option.some.injEq] at h; subst h
          refine ⟨g1.same, c_block (g1.code.mono ?_), by simp⟩
          rintro e s ⟨rfl, rfl⟩
          simp only [AInBlock, if_true]
          exact ⟨rfl, rfl⟩
        | false =>
          have hne : id' ≠ id := by rintro rfl; simp at hb
          rw [hb] at h
          simp only [cond_false, Option.some.injEq] at h; subst h
          refine ⟨g1.same, c_block (g1.code.mono ?_), by simp⟩
          rintro e s ⟨rfl, rfl⟩
          simp only [AInBlock, if_neg hne]
          exact ⟨rfl, rfl⟩
      · rename_i hne
        simp only [Option.some.injEq] at h; subst h
        refine ⟨g1.same, c_block (g1.code.mono ?_), by simp⟩
        rintro e' s ⟨rfl, rfl⟩
        cases e' <;> first | exact ⟨rfl, rfl⟩ | exact absurd rfl (hne _)
    · simp at h
  | loop a =>
    have key : Same r.low H r.H ∧ ALoop P a (QX r n) ⟨E, D, n, H⟩ := by
      simp only [xStep] at h
      split at h
      · rename_i e E1 D1 H1 low h1
        have g1 := hih _ _ _ _ _ _ h1
        split at h
        · split at h
          · rename_i E2 hE2
            split at h
            · rename_i e3 E3 D2 H2 low2 h2
              have g2 := hih _ _ _ _ _ _ h2
              simp only [Option.some.injEq] at h; subst h
              refine ⟨g1.same.trans g2.same, ALoop.round (g1.code.mono ?_)⟩
              rintro e s ⟨rfl, rfl⟩
              exact (g2.loop a rfl).env rfl rfl rfl (restrictE_ok hE2)
            · simp at h
          · simp at h
        · rename_i hne
          simp only [Option.some.injEq] at h; subst h
          refine ⟨g1.same, ALoop.round (g1.code.mono ?_)⟩
          rintro e' s ⟨rfl, rfl⟩
          rw [AThen.not_normal (fun h => hne h)]
          exact ⟨rfl, rfl⟩
      · simp at h
    exact ⟨key.1, key.2.code, fun c' hc => by cases hc; exact key.2⟩
  | region id ops draw =>
    have hc := xCall_ok hent hT hih
    simp only [xStep] at h
    split at h
    · obtain ⟨h1, h2⟩ := xRegion_ok hc hmo (id := id) h
      exact ⟨h1, h2, by simp⟩
    · obtain ⟨h1, h2⟩ := xOps_ok hc h
      exact ⟨h1, c_region h2, by simp⟩
  | scope a =>
    simp only [xStep] at h
    split at h
    · rename_i e E1 D1 H1 low h1
      have g1 := hih _ _ _ _ _ _ h1
      split at h
      · rename_i l
        split at h
        · rename_i rest hrest
          split at h
          · rename_i e2 E2 D2 H2 low2 h2
            have g2 := hih _ _ _ _ _ _ h2
            split at h
            · simp at h
            · rename_i hne
              simp only [Option.some.injEq] at h; subst h
              refine ⟨g1.same.trans g2.same, c_scope (g1.code.mono ?_), by simp⟩
              rintro e s ⟨rfl, rfl⟩
              refine ⟨rest, hrest, g2.code.mono ?_⟩
              rintro e' s' ⟨rfl, rfl⟩
              cases e' <;> first | exact ⟨rfl, rfl⟩ | exact absurd rfl (hne _)
          · simp at h
        · simp at h
      · rename_i hne
        simp only [Option.some.injEq] at h; subst h
        refine ⟨g1.same, c_scope (g1.code.mono ?_), by simp⟩
        rintro e' s ⟨rfl, rfl⟩
        cases e' <;> first | exact ⟨rfl, rfl⟩ | exact absurd rfl (hne _)
    · simp at h

theorem X_ok (hent : EntAll P) (hmo : P.follows .mixedOrders = true) {T : CallF} (hT : CallHyp P T) : ∀ k, IhOK P (X P T k)
  | 0 => fun _ _ _ _ _ _ h => by simp [X] at h
  | k + 1 => xStep_ok hent hmo hT (X_ok hent hmo hT k)

/-- A call, by its run. -/
theorem callsA_run (hent : EntAll P) (hmo : P.follows .mixedOrders = true) {T : CallF} (hT : CallHyp P T) {k : Nat} {f : FuncId} {as : List AV} {H H' : List AObj} {e : AEnd} {low : Nat} (h : xCallB P (X P T k) f as H = some (e, H', low)) : CallsA P f as H fun e' H'' => e' = e ∧ H'' = H' :=
  ((xCallB_ok hent (X_ok hent hmo hT k) h).1 _ _ _ rfl).2
def noT0 : CallF := fun _ _ _ => none
theorem noT0_ok : CallHyp P noT0 := ⟨fun _ _ _ _ _ _ h => by simp [noT0] at h⟩
end
end Go.Abs
