/- The abstract layer, made to run: what the run says is so. -/
import Derived.Test.YtjmedgagpheofaaGreatDoorXA
set_option linter.unusedSectionVars false
set_option linter.unusedVariables false
set_option linter.unusedSimpArgs false
set_option linter.constructorNameAsVariable false
namespace Go.Abs
open Go.RowKit
variable [Tabs]

section
variable {P : Program}
theorem c_label {l : Nat} {Q : APost} {s : ASt} (h : Q .normal s) : ACode P (.label l) Q s := fun G W a ra r => wp_label ⟨.normal, s, G, h, .normal, ra, r, .refl G⟩

theorem c_scope {c : Code} {Q : APost} {s : ASt} (h : ACode P c (fun e s' => match e with
      | .goto l => ∃ rest, findLabel c l = some rest ∧ ACode P rest (fun e s'' => match e with | .goto _ => False | e => Q e s'') s'
      | e => Q e s') s) : ACode P (.scope c) Q s := by
  intro G W a ra r b k cs
  obtain ⟨e, a₁, w₁, ⟨ae, s', G', q, rx, ra', r', l⟩, harr⟩ := h G W a ra r b (.inScope c :: k) cs
  cases rx with
  | normal => exact ⟨.normal, a₁, w₁, ⟨_, s', G', q, .normal, ra', r', l⟩, .head step_scope (Steps.trans harr (.one step_inScope))⟩
  | exit id => exact ⟨.exit id, a₁, w₁, ⟨_, s', G', q, .exit id, ra', r', l⟩, fun k' hk => .head step_scope (harr k' (by simp [exitTo, hk]))⟩
  | goto l' =>
    obtain ⟨rest, hf, hrest⟩ := q
    obtain ⟨e₂, a₂, w₂, ⟨ae2, s2, G2, q2, rx2, ra2, r2, hl2⟩, harr₂⟩ := hrest G' w₁ a₁ ra' r' b (.inScope c :: k) cs
    have hg : gotoIn l' (.inScope c :: k) = some (.code rest :: .inScope c :: k) := by simp [gotoIn, hf]
    have st := harr _ hg
    cases rx2 with
    | normal => exact ⟨.normal, a₂, w₂, ⟨_, s2, G2, q2, .normal, ra2, r2, l.trans hl2⟩, .head step_scope (Steps.trans st (Steps.trans harr₂ (.one step_inScope)))⟩
    | exit id => exact ⟨.exit id, a₂, w₂, ⟨_, s2, G2, q2, .exit id, ra2, r2, l.trans hl2⟩, fun k' hk => .head step_scope (Steps.trans st (harr₂ k' (by simp [exitTo, hk])))⟩
    | goto m => exact q2.elim
    | ret => exact ⟨_, a₂, w₂, ⟨_, s2, G2, q2, .ret, ra2, r2, l.trans hl2⟩, .of_steps (.head step_scope st) harr₂⟩
    | panic hv => exact ⟨_, a₂, w₂, ⟨_, s2, G2, q2, .panic hv, ra2, r2, l.trans hl2⟩, .of_steps (.head step_scope st) harr₂⟩
  | ret => exact ⟨_, a₁, w₁, ⟨_, s', G', q, .ret, ra', r', l⟩, .of_steps (.one step_scope) harr⟩
  | panic hv => exact ⟨_, a₁, w₁, ⟨_, s', G', q, .panic hv, ra', r', l⟩, .of_steps (.one step_scope) harr⟩

/-- From a loop's head on. -/
def ALoop (P : Program) (c : Code) (Q : APost) (s : ASt) : Prop := ∀ G W a, RA G s a → R G s.H W → ∀ (b : Frame) (k : List Item) (cs : List Frame), ∃ e a' w', lift G Q e a' w' ∧ Arrives P (lone (b.at a (.code c :: .inLoop c :: k)) cs W) b k cs e a' w'
theorem ALoop.code {c : Code} {Q : APost} {s : ASt} (h : ALoop P c Q s) : ACode P (.loop c) Q s := by
  intro G W a ra r b k cs
  obtain ⟨e, a', w', hq, harr⟩ := h G W a ra r b k cs
  exact ⟨e, a', w', hq, .of_steps (.one step_loop) harr⟩
theorem ALoop.round {c : Code} {Q : APost} {s : ASt} (h : ACode P c (AThen (fun s' => ALoop P c Q s') Q) s) : ALoop P c Q s := by
  intro G W a ra r b k cs
  obtain ⟨e, a₁, w₁, ⟨ae, s', G', q, rx, ra', r', l⟩, harr⟩ := h G W a ra r b (.inLoop c :: k) cs
  cases rx with
  | normal =>
    obtain ⟨e₂, a₂, w₂, q₂, harr₂⟩ := q G' w₁ a₁ ra' r' b k cs
    exact ⟨e₂, a₂, w₂, q₂.le l, .of_steps (Steps.trans harr (.one step_inLoop)) harr₂⟩
  | exit id => exact ⟨_, a₁, w₁, ⟨_, s', G', q, .exit id, ra', r', l⟩, .pass (x := .inLoop c) rfl (fun _ _ => .inl (by simp)) harr⟩
  | goto m => exact ⟨_, a₁, w₁, ⟨_, s', G', q, .goto m, ra', r', l⟩, .pass (x := .inLoop c) rfl (fun _ _ => .inl (by simp)) harr⟩
  | ret => exact ⟨_, a₁, w₁, ⟨_, s', G', q, .ret, ra', r', l⟩, .pass (x := .inLoop c) rfl (fun _ _ => .inl (by simp)) harr⟩
  | panic hv => exact ⟨_, a₁, w₁, ⟨_, s', G', q, .panic hv, ra', r', l⟩, .pass (x := .inLoop c) rfl (fun _ _ => .inl (by simp)) harr⟩
theorem ALoop.env {c : Code} {Q : APost} {s s' : ASt} (h : ALoop P c Q s') (hn : s'.n = s.n) (hd : s'.defs = s.defs) (hH : s'.H = s.H) (he : ∀ t v, look t s'.env = some v → look t s.env = some v) : ALoop P c Q s := by
  intro G W a ra r
  exact h G W a ⟨ra.size.trans hn.symm, fun t v hv => ra.env t v (he t v hv), hd ▸ ra.defs⟩ (hH ▸ r)

/-! ### The end of a call -/
/-- The deferred calls, one behind the other. -/
def LeaveA (P : Program) (Q : Option AV → List AObj → Prop) : Dfs → Option AV → List AObj → Prop
  | [], p, H => Q p H
  | (f, as) :: D, p, H => Ent P f ∧ DefA P f as p H fun p' H' => LeaveA P Q D p' H'
theorem LeaveA.mono {Q Q' : Option AV → List AObj → Prop} (hq : ∀ p H, Q p H → Q' p H) : ∀ {D : Dfs} {p : Option AV} {H : List AObj}, LeaveA P Q D p H → LeaveA P Q' D p H
  | [], _, _, h => hq _ _ h
  | (f, as) :: D, p, H, ⟨he, h⟩ => ⟨he, ⟨fun G W vs u hv r hm => (h.out G W vs u hv r hm).mono fun e u' W' hx => by
      cases e with
      | returned v => obtain ⟨p', H', G', q, rest⟩ := hx; exact ⟨p', H', G', LeaveA.mono hq q, rest⟩
      | panicked ch => obtain ⟨p', H', G', q, rest⟩ := hx; exact ⟨p', H', G', LeaveA.mono hq q, rest⟩
      | outgrown => exact hx⟩⟩

def EndQ (P : Program) (fn : Func) (E : Env) (n : Nat) (Q : AEnd → List AObj → Prop) (p : Option AV) (H : List AObj) : Prop :=
  match p with
  | none => ∃ v, resultsA P fn ⟨E, [], n, H⟩ v ∧ Q (.ret v) H
  | some v => Q (.panic v) H

theorem leaves_of {fn : Func} {E : Env} {n : Nat} {Q : AEnd → List AObj → Prop} {G0 : Gh} : ∀ {D : Dfs} {p : Option AV} {H : List AObj} {G : Gh} {W : World} {a : Act} {ds : List Deferred} {u : FrameMode},
    LeaveA P (EndQ P fn E n Q) D p H → RD G D ds → RM G p u → R G H W → RA G ⟨E, [], n, H⟩ { a with defers := [] } → G0.le G →
    Leaves P fn a.tmps (fun e W' => ∃ ae H' G', Q ae H' ∧ RE G' ae e ∧ R G' H' W' ∧ G0.le G') ds u W
  | [], p, H, G, W, a, ds, u, h, hd, hm, r, ra, hle => by
    cases hd
    cases hm with
    | returning =>
      obtain ⟨v, hres, hq⟩ := h
      obtain ⟨x, hx, hv⟩ := hres G W { a with defers := [] } ra r
      exact ⟨x, hx, .ret v, H, G, hq, .ret hv, r, hle⟩
    | panicking hv => exact ⟨.panic _, H, G, h, .panic hv, r, hle⟩
  | (f, as) :: D, p, H, G, W, a, ds, u, ⟨he, h⟩, hd, hm, r, ra, hle => by
    cases hd with
    | @cons _ _ vs ws _ ds' hl hd' =>
    have hmr : u ≠ .run := by cases hm <;> simp
    have hi : (invoke (.fn (.func f) ws.toArray) vs.toArray).run P W = .ok (.enter f (vs ++ ws).toArray) W := by
      simp only [invoke]
      have := he.run (vs.toArray ++ ws.toArray) W
      simpa using this
    refine leaves_cons hmr hi ((h.out G W (vs ++ ws) u hl r hm).mono fun e u' W' hx => ?_)
    cases e with
    | returned v =>
      obtain ⟨p', H', G', q, hm', r', l⟩ := hx
      exact leaves_of q (hd'.mono l) hm' r' ⟨ra.size, fun t v hv => (ra.env t v hv).mono l, .nil⟩ (hle.trans l)
    | panicked ch =>
      obtain ⟨p', H', G', q, hm', r', l⟩ := hx
      exact leaves_of q (hd'.mono l) hm' r' ⟨ra.size, fun t v hv => (ra.env t v hv).mono l, .nil⟩ (hle.trans l)
    | outgrown => exact hx.elim

/-- What follows a body: its deferred calls, and the end. -/
def bodyEnd (P : Program) (fn : Func) (n : Nat) (Q : AEnd → List AObj → Prop) : APost
  | .normal, s | .ret, s => s.n = n ∧ LeaveA P (EndQ P fn s.env n Q) s.defs none s.H
  | .panic v, s => s.n = n ∧ LeaveA P (EndQ P fn s.env n Q) s.defs (some v) s.H
  | _, _ => False

theorem callsA_of_defers {f : FuncId} {fn : Func} {c : Code} {args : List AV} {H : List AObj} {Q : AEnd → List AObj → Prop} (hf : P.funcs[f]? = some fn) (hb : fn.body = some c) (hs : args.length ≤ fn.ntmps)
    (h : ACode P c (bodyEnd P fn fn.ntmps Q) ⟨envOf 0 args, [], fn.ntmps, H⟩) : CallsA P f args H Q := by
  refine ⟨fun G W vs hv r => ?_⟩
  refine calls_of_wp_defers hf hb (wp_mono (h G W _ (act_start hv hs) r) ?_)
  rintro e a' W' ⟨ae, s', G', q, rx, ra, r', l⟩
  have hra : s'.n = fn.ntmps → RA G' ⟨s'.env, [], fn.ntmps, s'.H⟩ { a' with defers := [] } := fun hn => ⟨ra.size.trans hn, ra.env, .nil⟩
  cases rx with
  | normal => exact leaves_of q.2 ra.defs .returning r' (hra q.1) l
  | ret => exact leaves_of q.2 ra.defs .returning r' (hra q.1) l
  | panic hv => exact leaves_of q.2 ra.defs (.panicking hv) r' (hra q.1) l
  | exit id => exact q.elim
  | goto m => exact q.elim
end
end Go.Abs
