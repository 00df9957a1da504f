/- The abstract layer, made to run: results, regions. -/
import Derived.Test.YtjmedgagpheofaaGreatDoorX6
import Derived.Defers
import Derived.Recover
set_option linter.unusedSectionVars false
set_option linter.unusedVariables false
set_option linter.unusedSimpArgs false
set_option linter.constructorNameAsVariable false
namespace Go.Abs
open Go.RowKit
variable [Tabs]

/-! ### Results -/
def xRes1 (P : Program) (E : Env) (H : List AObj) : ResultVar → Option AV
  | .tmp t => lookF t E
  | .cell t ty => match lookF t E with
    | some (.ptr k i) => match H[k]? with
      | some (.cells ct cs) => match xTy P ty with
        | some (agg, size) => bif (agg || Nat.beq size 1) && Nat.ble (i + size) cs.length then (match force ((cs.drop i).take size) with
          | some ds => some (mkAV agg ds)
          | none => none) else none
        | none => none
      | _ => none
    | _ => none
def xResL (P : Program) (E : Env) (H : List AObj) : List ResultVar → Option (List AV)
  | [] => some []
  | r :: rs => match xRes1 P E H r, xResL P E H rs with
    | some v, some vs => some (v :: vs)
    | _, _ => none
def xResults (P : Program) (E : Env) (H : List AObj) (rs : List ResultVar) : Option AV :=
  match xResL P E H rs with
  | some [v] => some v
  | some vs => some (.tuple vs)
  | none => none

section
variable {P : Program} {s : ASt}
def resSem (tmps : Array Value) : ResultVar → Sem Value
  | .tmp t => pure (tmps.getD t undef)
  | .cell a t => do loadVar t (← asAddr (tmps.getD a undef))
theorem results_eq (fn : Func) (tmps : Array Value) : results fn tmps = (do let vs ← fn.results.mapM (resSem tmps); pure (if h : vs.size = 1 then vs[0] else .tuple vs)) := by
  unfold results
  refine congrArg (fun f => (do let vs ← fn.results.mapM f; pure (if h : vs.size = 1 then vs[0] else Value.tuple vs) : Sem Value)) ?_
  funext r; cases r <;> rfl
theorem xRes1_ok {r : ResultVar} {v : AV} (h : xRes1 P s.env s.H r = some v) {G : Gh} {W : World} {a : Act} (ra : RA G s a) (rr : R G s.H W) : ∃ x, (resSem a.tmps r).run P W = .ok x W ∧ Rv G v x := by
  unfold xRes1 at h
  split at h
  · rw [lookF_eq] at h
    exact ⟨_, by simp [resSem], ra.env _ _ h⟩
  · split at h
    · rename_i hv
      rw [lookF_eq] at hv
      split at h
      · rename_i hk
        split at h
        · rename_i ht
          obtain ⟨hc, h⟩ := bif_some h
          simp only [Bool.and_eq_true] at hc
          split at h
          · rename_i ds hds
            simp only [Option.some.injEq] at h; subst h
            obtain ⟨b, off, x, he, hx, hr⟩ := run_result_cell (P := P) ra rr hv hk (xTy_ok ht) (or_size hc.1) (by simpa using Nat.le_of_ble_eq_true hc.2)
            rw [force_eq hds] at hr
            exact ⟨x, by simp only [resSem, he]; simp [asAddr, hx], hr⟩
          · simp at h
        · simp at h
      · simp at h
    · simp at h
theorem xResL_ok {G : Gh} {W : World} {a : Act} (ra : RA G s a) (rr : R G s.H W) : ∀ {rs : List ResultVar} {vs : List AV}, xResL P s.env s.H rs = some vs → ∃ xs, (rs.mapM (resSem a.tmps)).run P W = .ok xs W ∧ RvL G vs xs
  | [], vs, h => by
    simp only [xResL, Option.some.injEq] at h; subst h
    exact ⟨[], by simp, .nil⟩
  | r :: rs, vs, h => by
    simp only [xResL] at h
    split at h
    · rename_i v us h1 h2
      simp only [Option.some.injEq] at h; subst h
      obtain ⟨x, hx, hr⟩ := xRes1_ok h1 ra rr
      obtain ⟨xs, hxs, hrs⟩ := xResL_ok ra rr h2
      refine ⟨x :: xs, ?_, .cons hr hrs⟩
      rw [List.mapM_cons]
      simp only [Sem.run_bind, hx, Result.andThen_ok, hxs, Sem.run_pure]
    · simp at h
theorem xResults_ok {fn : Func} {v : AV} (h : xResults P s.env s.H fn.results.toList = some v) : resultsA P fn s v := by
  intro G W a ra rr
  unfold xResults at h
  have key : ∀ vs, xResL P s.env s.H fn.results.toList = some vs → ∃ xs : List Value, (fn.results.mapM (resSem a.tmps) : Sem (Array Value)).run P W = .ok xs.toArray W ∧ RvL G vs xs := by
    intro vs hvs
    obtain ⟨xs, hxs, hr⟩ := xResL_ok ra rr hvs
    refine ⟨xs, ?_, hr⟩
    rw [Array.mapM_eq_mapM_toList, Sem.run_map, hxs]
    rfl
  split at h
  · rename_i hL
    simp only [Option.some.injEq] at h; subst h
    obtain ⟨xs, hx, hr⟩ := key _ hL
    match xs, hr with
    | [x], .cons hv .nil =>
      refine ⟨x, ?_, hv⟩
      rw [results_eq, Sem.run_bind, hx]
      simp
  · rename_i vs hne hL
    simp only [Option.some.injEq] at h; subst h
    obtain ⟨xs, hx, hr⟩ := key _ hL
    refine ⟨.tuple xs.toArray, ?_, .tuple hr⟩
    have hl := hr.length
    have h1 : ¬ xs.toArray.size = 1 := by
      intro h1
      simp only [List.size_toArray] at h1
      rw [h1] at hl
      match vs, hl with
      | [v], _ => exact hne v rfl
    rw [results_eq, Sem.run_bind, hx]
    simp only [Result.andThen_ok]
    rw [dif_neg h1]
    simp
  · simp at h
end
end Go.Abs
