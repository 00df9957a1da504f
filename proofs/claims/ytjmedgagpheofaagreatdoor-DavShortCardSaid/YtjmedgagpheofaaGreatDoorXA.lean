/- The abstract layer, made to run: codes and calls. -/
import Derived.Test.YtjmedgagpheofaaGreatDoorX9
import Derived.ScopeJumps
set_option linter.unusedSectionVars false
set_option linter.unusedVariables false
set_option linter.unusedSimpArgs false
set_option linter.constructorNameAsVariable false
namespace Go.Abs
open Go.RowKit
variable [Tabs]

abbrev IhF := Code → Nat → Env → Dfs → List AObj → Option XR

def envF : Nat → List AV → Env
  | _, [] => []
  | i, v :: vs => (i, v) :: envF (Nat.succ i) vs
theorem envF_eq : ∀ (i : Nat) (vs : List AV), envF i vs = envOf i vs
  | _, [] => rfl
  | i, v :: vs => by simp [envF, envOf, envF_eq]

/-! ### Forgetting -/
mutual
def loB (n : Nat) : AV → Bool
  | .agg cs => loBL n cs
  | .tuple cs => loBL n cs
  | .ptr r _ => Nat.blt r n
  | .iptr cs => loBL n cs
  | .lst xs tok => loBL n xs && (match tok with | none => true | some g => Nat.blt g n)
  | .slc r _ _ _ => Nat.blt r n
  | .dptr xs g => loBL n xs && Nat.blt g n
  | .func _ cs => loBL n cs
  | .mapv r => Nat.blt r n
  | .iface _ a => loB n a
  | _ => true
def loBL (n : Nat) : List AV → Bool
  | [] => true
  | a :: as => loB n a && loBL n as
end
theorem blt_lt {a b : Nat} (h : Nat.blt a b = true) : a < b := Nat.le_of_ble_eq_true (show Nat.ble (a + 1) b = true from h)
mutual
theorem loB_ok {n : Nat} : ∀ {a : AV}, loB n a = true → Lo n a
  | .bool b, _ => .bool b
  | .int k i, _ => .int k i
  | .str l, _ => .str l
  | .agg cs, h => .agg (loBL_ok (by simpa [loB] using h)).1
  | .tuple cs, h => .tuple (loBL_ok (by simpa [loB] using h)).1
  | .nilp, _ => .nilp
  | .ptr r i, h => .ptr (blt_lt (by simpa only [loB] using h))
  | .iptr cs, h => .iptr (loBL_ok (by simpa [loB] using h)).1
  | .nils, _ => .nils
  | .lst xs tok, h => by
    simp only [loB, Bool.and_eq_true] at h
    refine .lst (LoL.flat (loBL_ok h.1).2) (fun g e => ?_)
    subst e
    exact blt_lt h.2
  | .emp, _ => .emp
  | .slc r _ _ _, h => .slc (blt_lt (by simpa only [loB] using h))
  | .dptr xs g, h => by
    simp only [loB, Bool.and_eq_true] at h
    exact .dptr (LoL.flat (loBL_ok h.1).2) (blt_lt h.2)
  | .func fn cs, h => .func (loBL_ok (by simpa [loB] using h)).1
  | .nilf, _ => .nilf
  | .nilm, _ => .nilm
  | .mapv r, h => .mapv (blt_lt (by simpa only [loB] using h))
  | .iface t a, h => .iface (loB_ok (by simpa [loB] using h))
  | .nili, _ => .nili
theorem loBL_ok {n : Nat} : ∀ {as : List AV}, loBL n as = true → LoL n as ∧ ∀ a ∈ as, Lo n a
  | [], _ => ⟨.nil, by simp⟩
  | a :: as, h => by
    simp only [loBL, Bool.and_eq_true] at h
    have h1 := loB_ok h.1
    have h2 := loBL_ok h.2
    refine ⟨.cons h1 h2.1, fun x hx => ?_⟩
    rcases List.mem_cons.1 hx with rfl | hx
    · exact h1
    · exact h2.2 x hx
end
def entB (n : Nat) : List (Nat × AV × AV) → Bool
  | [] => true
  | (_, k, x) :: es => loB n k && loB n x && entB n es
theorem entB_ok {n : Nat} : ∀ {es : List (Nat × AV × AV)}, entB n es = true → entriesLo n es
  | [], _ => trivial
  | (_, k, x) :: es, h => by
    simp only [entB, Bool.and_eq_true] at h
    exact ⟨loB_ok h.1.1, loB_ok h.1.2, entB_ok h.2⟩
def objB (n : Nat) : AObj → Bool
  | .cells _ cs => loBL n cs
  | .row _ _ _ cs => loBL n cs
  | .map es _ => entB n es
  | .iter (some m) _ _ _ => Nat.blt m n
  | _ => true
theorem objB_ok {n : Nat} {o : AObj} (h : objB n o = true) : objLo n o := by
  cases o with
  | cells t cs => exact (loBL_ok h).1
  | row t k m cs => exact (loBL_ok h).1
  | map es c => exact entB_ok h
  | iter m since seen last =>
    cases m with
    | none => trivial
    | some m => exact blt_lt h
  | tok => trivial
  | dead => trivial
/-- The objects from number 'low' on refer to few. -/
def objsB (n low : Nat) : Nat → List AObj → Bool
  | _, [] => true
  | i, o :: os => (Nat.blt i low || objB n o) && objsB n low (Nat.succ i) os
theorem objsB_ok {n low : Nat} : ∀ {i : Nat} {os : List AObj}, objsB n low i os = true → ∀ j o, os[j]? = some o → low ≤ i + j → objLo n o
  | i, [], _, j, o, h, _ => by simp at h
  | i, x :: os, h, 0, o, ho, hl => by
    simp only [objsB, Bool.and_eq_true, Bool.or_eq_true] at h
    simp only [List.getElem?_cons_zero, Option.some.injEq] at ho; subst ho
    rcases h.1 with h1 | h1
    · exact absurd (blt_lt h1) (by omega)
    · exact objB_ok h1
  | i, x :: os, h, j + 1, o, ho, hl => by
    simp only [objsB, Bool.and_eq_true] at h
    exact objsB_ok (i := Nat.succ i) h.2 j o (by simpa using ho) (by simp only [Nat.succ_eq_add_one]; omega)

def endLo (n : Nat) : AEnd → Bool
  | .ret v => loB n v
  | .panic v => loB n v
/-- A call's own objects are dropped, where nothing refers to them. -/
def dropX (n : Nat) (r : AEnd × List AObj × Nat) : Option (AEnd × List AObj × Nat) :=
  match r with
  | (e, H', low) => bif Nat.ble H'.length n then some (e, H', low) else (match force (H'.take n) with
    | some K => bif endLo n e && objsB n low 0 K then some (e, K, low) else some (e, H', low)
    | none => none)
theorem dropX_ok {P : Program} {f : FuncId} {as : List AV} {H : List AObj} {e : AEnd} {H' : List AObj} {low : Nat} {r : AEnd × List AObj × Nat} (h : dropX H.length (e, H', low) = some r) (hs : Same low H H') (hc : CallsA P f as H fun e' H'' => e' = e ∧ H'' = H') :
    ∀ e2 H2 low2, r = (e2, H2, low2) → Same low2 H H2 ∧ CallsA P f as H fun e' H'' => e' = e2 ∧ H'' = H2 := by
  rintro e2 H2 low2 rfl
  unfold dropX at h
  simp only at h
  cases hb : Nat.ble H'.length H.length with
  | true =>
    rw [hb] at h
    simp only [cond_true, Option.some.injEq, Prod.mk.injEq] at h
    obtain ⟨rfl, rfl, rfl⟩ := h
    exact ⟨hs, hc⟩
  | false =>
    rw [hb] at h
    simp only [cond_false] at h
    split at h
    · rename_i K hK
      have hK := force_eq hK
      cases hb2 : (endLo H.length e && objsB H.length low 0 K) with
      | false =>
        rw [hb2] at h
        simp only [cond_false, Option.some.injEq, Prod.mk.injEq] at h
        obtain ⟨rfl, rfl, rfl⟩ := h
        exact ⟨hs, hc⟩
      | true =>
        rw [hb2] at h
        simp only [cond_true, Option.some.injEq, Prod.mk.injEq] at h
        obtain ⟨rfl, rfl, rfl⟩ := h
        simp only [Bool.and_eq_true] at hb2
        have hlen : K.length = H.length := by rw [← hK, List.length_take]; exact Nat.min_eq_left hs.1
        have hget : ∀ i, i < H.length → K[i]? = H'[i]? := fun i hi => by rw [← hK, List.getElem?_take_of_lt hi]
        refine ⟨⟨by omega, fun i hi hl => by rw [hget i hl]; exact hs.2 i hi hl⟩, ?_⟩
        refine CallsA.drop (hc.mono fun e' H'' he => ?_)
        obtain ⟨rfl, rfl⟩ := he
        refine ⟨K, List.drop H.length _, by rw [← hK, List.take_append_drop], hlen, fun o ho => ?_, ⟨rfl, rfl⟩, ?_⟩
        · obtain ⟨j, hj, rfl⟩ := List.getElem_of_mem ho
          by_cases hjl : j < low
          · left
            have h1 := hget j (by omega)
            rw [List.getElem?_eq_getElem hj, hs.2 j hjl (by omega)] at h1
            exact List.mem_of_getElem? h1.symm
          · exact .inr (objsB_ok hb2.2 j _ (List.getElem?_eq_getElem hj) (by omega))
        · cases e' <;> exact loB_ok hb2.1
    · simp at h

/-! ### The end of a call -/
def recTop (n : Nat) : Code → Option (Nat × Code)
  | .seq (.region _ ops false) rest => match ops.toList with
    | [o] => match o.dst with
      | some d => bif recOp o && Nat.blt d n then some (d, rest) else none
      | none => none
    | _ => none
  | _ => none
/-- One deferred call. -/
def xDeferred (P : Program) (ih : IhF) (f : FuncId) (as : List AV) (p : Option AV) (H : List AObj) : Option (Option AV × List AObj × Nat) :=
  match P.funcs[f]? with
  | some fn => match fn.body with
    | some c => bif Nat.ble as.length fn.ntmps then (match recTop fn.ntmps c with
      | some (d, rest) => match ih rest fn.ntmps ((d, p.getD .nili) :: envF 0 as) [] H with
        | some ⟨e, E, D, H', low⟩ => match D with
          | [] => match e with
            | .normal => match xResults P E H' fn.results.toList with
              | some _ => some (none, H', low)
              | none => none
            | .ret => match xResults P E H' fn.results.toList with
              | some _ => some (none, H', low)
              | none => none
            | .panic v => match p with
              | none => some (some v, H', low)
              | some _ => none
            | _ => none
          | _ => none
        | none => none
      | none => match ih c fn.ntmps (envF 0 as) [] H with
        | some ⟨e, E, D, H', low⟩ => match D with
          | [] => match e with
            | .normal => match xResults P E H' fn.results.toList with
              | some _ => some (p, H', low)
              | none => none
            | .ret => match xResults P E H' fn.results.toList with
              | some _ => some (p, H', low)
              | none => none
            | .panic v => match p with
              | none => some (some v, H', low)
              | some _ => none
            | _ => none
          | _ => none
        | none => none) else none
    | none => none
  | none => none
def xLeave (P : Program) (ih : IhF) : Dfs → Option AV → List AObj → Nat → Option (Option AV × List AObj × Nat)
  | [], p, H, low => some (p, H, low)
  | (f, as) :: D, p, H, low => match xDeferred P ih f as p H with
    | some (p', H', low') => xLeave P ih D p' H' (minN low low')
    | none => none
def xEnd (P : Program) (fn : Func) (E : Env) : Option AV × List AObj × Nat → Option (AEnd × List AObj × Nat)
  | (none, H, low) => match xResults P E H fn.results.toList with
    | some v => some (.ret v, H, low)
    | none => none
  | (some v, H, low) => some (.panic v, H, low)
def xCallB (P : Program) (ih : IhF) : CallF := fun f as H =>
  match P.funcs[f]? with
  | some fn => match fn.body with
    | some c => bif Nat.ble as.length fn.ntmps then (match ih c fn.ntmps (envF 0 as) [] H with
      | some ⟨e, E, D, H', low⟩ =>
        let p : Option (Option AV) := match e with
          | .normal => some none
          | .ret => some none
          | .panic v => some (some v)
          | _ => none
        match p with
        | some p => match xLeave P ih D p H' low with
          | some q => match xEnd P fn E q with
            | some r => dropX H.length r
            | none => none
          | none => none
        | none => none
      | none => none) else none
    | none => none
  | none => none
def xCall (P : Program) (T : CallF) (ih : IhF) : CallF := fun f as H =>
  match T f as H with
  | some r => some r
  | none => xCallB P ih f as H

/-! ### Codes -/
def restrictE : Env → Env → Option Env
  | [], _ => some []
  | (t, _) :: E0, E => match restrictE E0 E, lookF t E with
    | some E1, some v => some ((t, v) :: E1)
    | some E1, none => some E1
    | none, _ => none
theorem restrictE_ok : ∀ {E0 E E1 : Env}, restrictE E0 E = some E1 → ∀ t v, look t E1 = some v → look t E = some v
  | [], E, E1, h, t, v, hv => by simp only [restrictE, Option.some.injEq] at h; subst h; simp [look] at hv
  | (u, w) :: E0, E, E1, h, t, v, hv => by
    simp only [restrictE] at h
    split at h
    · rename_i E2 x h1 h2
      simp only [Option.some.injEq] at h; subst h
      simp only [look] at hv
      split at hv
      · rename_i e; subst e
        simp only [Option.some.injEq] at hv; subst hv
        rw [← lookF_eq]; exact h2
      · exact restrictE_ok h1 t v hv
    · rename_i E2 h1 h2
      simp only [Option.some.injEq] at h; subst h
      exact restrictE_ok h1 t v hv
    · simp at h

def xStep (P : Program) (T : CallF) (ih : IhF) (c : Code) (n : Nat) (E : Env) (D : Dfs) (H : List AObj) : Option XR :=
  match c with
  | .skip => some ⟨.normal, E, D, H, inf⟩
  | .exit id => some ⟨.exit id, E, D, H, inf⟩
  | .goto l => some ⟨.goto l, E, D, H, inf⟩
  | .ret => some ⟨.ret, E, D, H, inf⟩
  | .label _ => some ⟨.normal, E, D, H, inf⟩
  | .seq a b => match ih a n E D H with
    | some ⟨e, E1, D1, H1, low⟩ => match e with
      | .normal => match ih b n E1 D1 H1 with
        | some ⟨e2, E2, D2, H2, low2⟩ => some ⟨e2, E2, D2, H2, minN low low2⟩
        | none => none
      | e => some ⟨e, E1, D1, H1, low⟩
    | none => none
  | .cond c a b => match evE E c with
    | some (.bool t) => match t with
      | true => ih a n E D H
      | false => ih b n E D H
    | _ => none
  | .block id c => match ih c n E D H with
    | some ⟨e, E1, D1, H1, low⟩ => match e with
      | .exit id' => bif Nat.beq id' id then some ⟨.normal, E1, D1, H1, low⟩ else some ⟨.exit id', E1, D1, H1, low⟩
      | e => some ⟨e, E1, D1, H1, low⟩
    | none => none
  | .loop c => match ih c n E D H with
    | some ⟨e, E1, D1, H1, low⟩ => match e with
      | .normal => match restrictE E E1 with
        | some E2 => match ih (.loop c) n E2 D1 H1 with
          | some ⟨e2, E3, D2, H2, low2⟩ => some ⟨e2, E3, D2, H2, minN low low2⟩
          | none => none
        | none => none
      | e => some ⟨e, E1, D1, H1, low⟩
    | none => none
  | .region _ ops draw => match draw with
    | true => xRegion P (xCall P T ih) ops n E D H
    | false => xOps P (xCall P T ih) ops n (List.range ops.size) E D H
  | .scope c => match ih c n E D H with
    | some ⟨e, E1, D1, H1, low⟩ => match e with
      | .goto l => match findLabel c l with
        | some rest => match ih rest n E1 D1 H1 with
          | some ⟨e2, E2, D2, H2, low2⟩ => match e2 with
            | .goto _ => none
            | e2 => some ⟨e2, E2, D2, H2, minN low low2⟩
          | none => none
        | none => none
      | e => some ⟨e, E1, D1, H1, low⟩
    | none => none
  | _ => none
def X (P : Program) (T : CallF) : Nat → IhF
  | 0 => fun _ _ _ _ _ => none
  | k + 1 => xStep P T (X P T k)
end Go.Abs
