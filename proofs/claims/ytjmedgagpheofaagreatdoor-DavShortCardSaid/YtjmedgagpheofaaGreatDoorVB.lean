/- A symbolic run, told as a proposition: what must be shown so that a code does what it should. -/
import Derived.Test.YtjmedgagpheofaaGreatDoorVA
set_option linter.unusedSectionVars false
set_option linter.unusedVariables false
set_option linter.unusedSimpArgs false
set_option linter.constructorNameAsVariable false
namespace Go.Abs
open Go.RowKit
variable [Tabs]

abbrev VK := AExit → Env → Dfs → List AObj → Prop
abbrev EQ := AEnd → List AObj → Prop
/-- What calls come to: a condition over what follows. -/
abbrev VCF := FuncId → List AV → List AObj → Option (EQ → Prop)
def VCFOK (P : Program) (C : VCF) : Prop := ∀ f as H w, C f as H = some w → ∀ Q : EQ, w Q → InvA P f as H Q

/-- What holds at a loop's head, for some x. -/
structure LInv where
  X : Type
  env : X → Env
  heap : X → List AObj
  ok : X → Prop
  meas : X → Nat
/-- What a function's run is told: loops by the first region in them; how a value is to be written. -/
structure FH where
  inv : Nat → Option (List LInv) := fun _ => none
  sub : Nat → Env → Option AV := fun _ _ => none
  tok : Nat → Bool := fun _ => false
  cut : Nat → Env → Option (List LInv) := fun _ _ => none
  join : Nat → Env → Option (List LInv) := fun _ _ => none
def noFH : FH := {}
def QK (K : VK) (n : Nat) : APost := fun e s => s.n = n ∧ K e s.env s.defs s.H

def vPut (h : FH) (d : Option Tmp) (v : AV) (E : Env) (N : Env → Prop) : Prop := match d with
  | none => N E
  | some d => match h.sub d E with
    | some w => v = w ∧ N ((d, w) :: E)
    | none => N ((d, v) :: E)
theorem vPut_ok {h : FH} {d : Option Tmp} {v : AV} {E : Env} {D : Dfs} {n : Nat} {H : List AObj} {N : Env → Prop} (hv : vPut h d v E N) : ∃ E', ASt.put ⟨E, D, n, H⟩ d v = ⟨E', D, n, H⟩ ∧ N E' := by
  unfold vPut at hv
  split at hv
  · exact ⟨E, rfl, hv⟩
  · split at hv
    · obtain ⟨rfl, hv⟩ := hv
      exact ⟨_, rfl, hv⟩
    · exact ⟨_, rfl, hv⟩

def noCall : CallF := fun _ _ _ => none
theorem noCall_ok {P : Program} : CallOK P noCall := fun _ _ _ _ _ _ h => by simp [noCall] at h

def vElse (P : Program) (h : FH) (o : Oper) (E : Env) (D : Dfs) (H : List AObj) (N : Env → Dfs → List AObj → Prop) : Prop :=
  match vPure P E o.op with
  | some (c, v) => Cd.and c (vPut h o.dst v E fun E' => N E' D H)
  | none => match xEff P noCall E H o.op with
    | some (.go v H' _) => vPut h o.dst v E fun E' => N E' D H'
    | _ => False
def vPick (h : FH) (o : Oper) (x : Operand) (E : Env) (D : Dfs) (H : List AObj) (N : Env → Dfs → List AObj → Prop) : Prop := match evE E x with
  | some v => vPut h o.dst v E fun E' => N E' D H
  | none => False
def vCallV (h : FH) (C : FuncId → List AV → List AObj → EQ → Prop) (o : Oper) (x : Operand) (xs : List Operand) (E : Env) (D : Dfs) (H : List AObj) (K : VK) (N : Env → Dfs → List AObj → Prop) : Prop :=
  match evE E x, evsE E xs with
  | some (.func (.func f) caps), some vs => C f (vs ++ caps) H fun e H' => match e with
    | .ret v => vPut h o.dst v E fun E' => N E' D H'
    | .panic v => K (.panic v) E D H'
  | _, _ => False
def vApp (P : Program) (h : FH) (o : Oper) (xs : List Operand) (ts : List TypeId) (E : Env) (D : Dfs) (H : List AObj) (N : Env → Dfs → List AObj → Prop) : Prop :=
  match xs, ts with
  | [x, y], [t, tx] => match evE E x, evE E y with
    | some a, some b => match vAppend P H t tx a b with
      | some (c, v, H') => c ∧ vPut h o.dst v E fun E' => N E' D H'
      | none => False
    | _, _ => False
  | _, _ => False
def tokD (h : FH) : Option Tmp → Bool
  | some d => h.tok d
  | none => false
def vBuildT (P : Program) (h : FH) (o : Oper) (t : TypeId) (len : Nat) (parts : List (Nat × Operand)) (E : Env) (D : Dfs) (H : List AObj) (N : Env → Dfs → List AObj → Prop) : Prop :=
  match xBuildTok P E H t len parts with
  | some (.go v H' _) => vPut h o.dst v E fun E' => N E' D H'
  | _ => False
def vOp (P : Program) (h : FH) (C : FuncId → List AV → List AObj → EQ → Prop) (o : Oper) (n : Nat) (E : Env) (D : Dfs) (H : List AObj) (K : VK) (N : Env → Dfs → List AObj → Prop) : Prop :=
  bif dstOK o.dst n && stOK o then (match o.op with
  | .pick c x y => match evE E c with
    | some (.bool b) => cond b (vPick h o x E D H N) (vPick h o y E D H N)
    | _ => False
  | .call { callee := .value x, args := xs, argTypes := _ } => vCallV h C o x xs.toList E D H K N
  | .call { callee := .builtin .append, args := xs, argTypes := ts } => vApp P h o xs.toList ts.toList E D H N
  | .panic x => match evE E x with
    | some (.iface t v) => K (.panic (.iface t v)) E D H
    | _ => False
  | .defer { callee := .value x, args := xs, argTypes := _ } => match evE E x, evsE E xs.toList with
    | some (.func (.func f) caps), some vs => vPut noFH o.dst (.tuple []) E fun E' => N E' ((f, vs ++ caps) :: D) H
    | _, _ => False
  | .buildSlice t len parts => bif tokD h o.dst then vBuildT P h o t len parts.toList E D H N else vElse P h o E D H N
  | _ => vElse P h o E D H N) else False

theorem bif_false {b : Bool} {p : Prop} (h : bif b then p else False) : b = true ∧ p := by cases b with
  | true => exact ⟨rfl, h⟩
  | false => exact h.elim

section
variable {P : Program}
theorem vElse_ok {h : FH} {o : Oper} {n : Nat} {E : Env} {D : Dfs} {H : List AObj} {N : Env → Dfs → List AObj → Prop} {Q : APost} (hd : dstOK o.dst n = true) (hs : stOK o = true) (hv : vElse P h o E D H N) :
    AOp P o (fun s => s.n = n ∧ N s.env s.defs s.H) Q ⟨E, D, n, H⟩ := by
  unfold vElse at hv
  split at hv
  · rename_i c v hp
    replace hv := Cd.and_ok hv
    obtain ⟨hc, hv⟩ := hv
    obtain ⟨E', he, hN⟩ := vPut_ok (D := D) (n := n) (H := H) hv
    exact vPure_ok rfl hp hc (fun _ _ h => h) hd (by rw [he]; exact ⟨rfl, hN⟩)
  · split at hv
    · rename_i v H' low he
      obtain ⟨E', he', hN⟩ := vPut_ok (D := D) (n := n) (H := H') hv
      have := (xEff_ok (Q := Q) (N := fun s => s.n = n ∧ N s.env s.defs s.H) (s := ⟨E, D, n, H⟩) (o := o) noCall_ok rfl he (fun _ _ h => h) hd hs).2
      refine this ?_
      show _ ∧ _
      rw [he']; exact ⟨rfl, hN⟩
    · exact hv.elim

theorem vOp_ok {h : FH} {C : FuncId → List AV → List AObj → EQ → Prop} (hC : ∀ f as H Q, C f as H Q → InvA P f as H Q) {o : Oper} {n : Nat} {E : Env} {D : Dfs} {H : List AObj} {K : VK} {N : Env → Dfs → List AObj → Prop} (hv : vOp P h C o n E D H K N) :
    AOp P o (fun s => s.n = n ∧ N s.env s.defs s.H) (QK K n) ⟨E, D, n, H⟩ := by
  unfold vOp at hv
  obtain ⟨hb, hv⟩ := bif_false hv
  rw [Bool.and_eq_true] at hb
  obtain ⟨hd, hs⟩ := hb
  split at hv
  · rename_i c x y hop
    split at hv
    · rename_i b hc
      have hc := evE_ev (s := ⟨E, D, n, H⟩) (fun _ _ h => h) hc
      cases b with
      | true =>
        simp only [cond_true, vPick] at hv
        split at hv
        · rename_i v hx
          obtain ⟨E', he, hN⟩ := vPut_ok (D := D) (n := n) (H := H) hv
          exact op_pick_t hop hd hc (evE_ev (fun _ _ h => h) hx) (by rw [he]; exact ⟨rfl, hN⟩)
        · exact hv.elim
      | false =>
        simp only [cond_false, vPick] at hv
        split at hv
        · rename_i v hx
          obtain ⟨E', he, hN⟩ := vPut_ok (D := D) (n := n) (H := H) hv
          exact op_pick_f hop hd hc (evE_ev (fun _ _ h => h) hx) (by rw [he]; exact ⟨rfl, hN⟩)
        · exact hv.elim
    · exact hv.elim
  · rename_i x xs ts hop
    unfold vCallV at hv
    split at hv
    · rename_i f caps vs hx hvs
      refine op_call_inv hop hd (evE_ev (fun _ _ h => h) hx) (evsE_evs (fun _ _ h => h) hvs) ((hC _ _ _ _ hv).mono ?_)
      intro e H' he
      cases e with
      | ret v =>
        obtain ⟨E', he', hN⟩ := vPut_ok (D := D) (n := n) (H := H') he
        show _ ∧ _
        rw [he']; exact ⟨rfl, hN⟩
      | panic v => exact ⟨rfl, he⟩
    · exact hv.elim
  · rename_i xs ts hop
    unfold vApp at hv
    split at hv
    · rename_i x y t tx hxs hts
      have e1 : xs = #[x, y] := by apply Array.ext'; simpa using hxs
      have e2 : ts = #[t, tx] := by apply Array.ext'; simpa using hts
      subst e1 e2
      split at hv
      · rename_i a b hx hy
        split at hv
        · rename_i c v H' ha
          obtain ⟨hc, hv⟩ := hv
          obtain ⟨E', he', hN⟩ := vPut_ok (D := D) (n := n) (H := H') hv
          refine vAppend_ok (s := ⟨E, D, n, H⟩) hop hd (evE_ev (fun _ _ h => h) hx) (evE_ev (fun _ _ h => h) hy) ha hc ?_
          show _ ∧ _
          rw [he']; exact ⟨rfl, hN⟩
        · exact hv.elim
      · exact hv.elim
    · exact hv.elim
  · rename_i x hop
    split at hv
    · rename_i t v hx
      exact op_panic' hop (evE_ev (fun _ _ h => h) hx) ⟨rfl, hv⟩
    · exact hv.elim
  · rename_i x xs ts hop
    split at hv
    · rename_i f caps vs hx hvs
      obtain ⟨E', he', hN⟩ := vPut_ok (D := (f, vs ++ caps) :: D) (n := n) (H := H) hv
      refine op_defer hop hd (evE_ev (fun _ _ h => h) hx) (evsE_evs (fun _ _ h => h) hvs) ?_
      show _ ∧ _
      rw [he']; exact ⟨rfl, hN⟩
    · exact hv.elim
  · rename_i t len parts hop
    cases htk : tokD h o.dst with
    | false =>
      rw [htk] at hv
      exact vElse_ok hd hs hv
    | true =>
      rw [htk] at hv
      simp only [cond_true, vBuildT] at hv
      split at hv
      · rename_i v H' low he
        obtain ⟨E', he', hN⟩ := vPut_ok (D := D) (n := n) (H := H') hv
        refine (xBuildTok_ok (s := ⟨E, D, n, H⟩) (fun _ _ h => h) hop hd he).2 ?_
        show _ ∧ _
        rw [he']; exact ⟨rfl, hN⟩
      · exact hv.elim
  · exact vElse_ok hd hs hv

/-! ### Operations in their order -/
def vSkip (o : Oper) (n : Nat) (E : Env) (N : Env → Prop) : Prop :=
  bif dstOK o.dst n then (match o.dst with
    | some d => N ((d, .tuple []) :: E)
    | none => N E) else False
def vOps (P : Program) (h : FH) (C : FuncId → List AV → List AObj → EQ → Prop) (ops : Array Oper) (n : Nat) (K : VK) : List Nat → Env → Dfs → List AObj → Prop
  | [], E, D, H => K .normal E D H
  | i :: l, E, D, H => match ops[i]? with
    | none => False
    | some o => match o.guard with
      | none => vOp P h C o n E D H K (fun E D H => vOps P h C ops n K l E D H)
      | some (j, w) => match ops[j]? with
        | none => False
        | some oj => match oj.dst with
          | none => False
          | some d => bif Nat.blt d n then (match lookF d E with
            | some (.bool b) =>
              cond b (cond w (vOp P h C o n ((d, .bool true) :: E) D H K (fun E D H => vOps P h C ops n K l E D H)) (vSkip o n ((d, .bool true) :: E) fun E => vOps P h C ops n K l E D H))
                     (cond w (vSkip o n ((d, .bool false) :: E) fun E => vOps P h C ops n K l E D H) (vOp P h C o n ((d, .bool false) :: E) D H K (fun E D H => vOps P h C ops n K l E D H)))
            | some (.tuple []) => vSkip o n E fun E => vOps P h C ops n K l E D H
            | _ => False) else False
theorem vSkip_ok {o : Oper} {n : Nat} {E : Env} {D : Dfs} {H : List AObj} {N : Env → Prop} (hv : vSkip o n E N) : dstOK o.dst n = true ∧ ∃ E', ASt.put ⟨E, D, n, H⟩ o.dst (.tuple []) = ⟨E', D, n, H⟩ ∧ N E' := by
  unfold vSkip at hv
  obtain ⟨hb, hv⟩ := bif_false hv
  refine ⟨hb, ?_⟩
  split at hv
  · rename_i d hd
    exact ⟨_, by rw [hd]; rfl, hv⟩
  · rename_i hd
    exact ⟨_, by rw [hd]; rfl, hv⟩
theorem vOps_ok {h : FH} {C : FuncId → List AV → List AObj → EQ → Prop} (hC : ∀ f as H Q, C f as H Q → InvA P f as H Q) {ops : Array Oper} {n : Nat} {K : VK} : ∀ {l : List Nat} {E : Env} {D : Dfs} {H : List AObj}, vOps P h C ops n K l E D H → AOps P ops l (QK K n) ⟨E, D, n, H⟩
  | [], E, D, H, hv => o_nil ⟨rfl, hv⟩
  | i :: l, E, D, H, hv => by
    have rest : ∀ {s : ASt}, s.n = n ∧ vOps P h C ops n K l s.env s.defs s.H → AOps P ops l (QK K n) s := by
      rintro ⟨E, D, n', H⟩ ⟨hn, hv⟩
      have hn : n' = n := hn
      subst hn
      exact vOps_ok hC hv
    have opM : ∀ {o : Oper} {E : Env} {D : Dfs} {H : List AObj}, vOp P h C o n E D H K (fun E D H => vOps P h C ops n K l E D H) → AOp P o (fun s => AOps P ops l (QK K n) s) (QK K n) ⟨E, D, n, H⟩ := by
      intro o E D H hv G W a ra r
      refine upon_mono ?_ (fun _ _ _ h => h) _ (vOp_ok hC hv G W a ra r)
      rintro a' W' ⟨s', G', hn, ra', r', l'⟩
      exact ⟨s', G', rest hn, ra', r', l'⟩
    simp only [vOps] at hv
    split at hv
    · exact hv.elim
    · rename_i o ho
      split at hv
      · rename_i hg
        exact o_cons ho hg (opM hv)
      · rename_i j w hg
        split at hv
        · exact hv.elim
        · rename_i oj hj
          split at hv
          · exact hv.elim
          · rename_i d hd
            obtain ⟨hn, hv⟩ := bif_false hv
            have hn : d < n := Nat.le_of_ble_eq_true (show Nat.ble (d + 1) n = true from hn)
            split at hv
            · rename_i b hb
              rw [lookF_eq] at hb
              have hlook : ∀ b', look d (((d, .bool b') :: E : Env)) = some (.bool b') := fun b' => by simp [look]
              have skipM : ∀ {b' : Bool}, b' ≠ w → vSkip o n ((d, .bool b') :: E) (fun E => vOps P h C ops n K l E D H) → AOps P ops (i :: l) (QK K n) ⟨(d, .bool b') :: E, D, n, H⟩ := by
                intro b' hne hv
                obtain ⟨h1, E', he, hN⟩ := vSkip_ok (D := D) (H := H) hv
                exact o_skip (b := b') ho hg hj hd (decide_eq_true hn) (hlook b') hne h1 (by rw [he]; exact rest ⟨rfl, hN⟩)
              have doM : ∀ {b' : Bool}, b' = w → vOp P h C o n ((d, .bool b') :: E) D H K (fun E D H => vOps P h C ops n K l E D H) → AOps P ops (i :: l) (QK K n) ⟨(d, .bool b') :: E, D, n, H⟩ := by
                intro b' he hv
                exact o_do (b := b') ho hg hj hd (decide_eq_true hn) (hlook b') he (opM hv)
              refine o_split hb ?_ ?_
              · rintro rfl
                cases w with
                | true => exact doM rfl hv
                | false => exact skipM (by simp) hv
              · rintro rfl
                cases w with
                | true => exact skipM (by simp) hv
                | false => exact doM rfl hv
            · rename_i hb
              rw [lookF_eq] at hb
              obtain ⟨h1, E', he, hN⟩ := vSkip_ok (D := D) (H := H) hv
              exact o_skip_u ho hg hj hd hb h1 (by rw [he]; exact rest ⟨rfl, hN⟩)
            · exact hv.elim
end
end Go.Abs
