/- The abstract layer: deferred calls, recover; what a call leaves behind. -/
import Derived.Test.YtjmedgagpheofaaGreatDoorXD
set_option linter.unusedSectionVars false
set_option linter.unusedVariables false
set_option linter.unusedSimpArgs false
set_option linter.constructorNameAsVariable false
namespace Go.Abs
open Go.RowKit
variable [Tabs]

/-! ### Deferred calls -/
/-- The mode of the frame that defers: returning, or panicking with a value. -/
inductive RM (G : Gh) : Option AV → FrameMode → Prop
  | returning : RM G none .returning
  | panicking {v : AV} {x : Value} : Rv G v x → RM G (some v) (.panicking [{ v := x, recovered := false }])

structure DefA (P : Program) (f : FuncId) (as : List AV) (p : Option AV) (H : List AObj) (Q : Option AV → List AObj → Prop) : Prop where
  out : ∀ G W vs u, RvL G as vs → R G H W → RM G p u → CallsD P f vs.toArray u W fun e u' W' =>
    match e with
    | .returned _ => ∃ p' H' G', Q p' H' ∧ RM G' p' (settle u') ∧ R G' H' W' ∧ G.le G'
    | .panicked chain => ∃ p' H' G', Q p' H' ∧ RM G' p' (raised u' chain) ∧ R G' H' W' ∧ G.le G'
    | .outgrown => False
theorem RM.mono {G G' : Gh} (h : G.le G') {p : Option AV} {u : FrameMode} : RM G p u → RM G' p u
  | .returning => .returning
  | .panicking hv => .panicking (hv.mono h)
theorem RM.settle {G : Gh} {p : Option AV} {u : FrameMode} : RM G p u → RM G p (Go.settle u)
  | .returning => .returning
  | .panicking hv => .panicking hv

section
variable {P : Program}

theorem act_start {G : Gh} {fn : Func} {as : List AV} {vs : List Value} {H : List AObj} (hv : RvL G as vs) (hs : as.length ≤ fn.ntmps) : RA G ⟨envOf 0 as, [], fn.ntmps, H⟩ { tmps := vs.toArray ++ Array.replicate (fn.ntmps - vs.toArray.size) undef, defers := [] } := by
  have hl := hv.length
  refine ⟨by simp; omega, ?_, .nil⟩
  intro t v ht
  obtain ⟨_, h2⟩ := look_envOf as 0 t v ht
  obtain ⟨x, hx, hr⟩ := hv.get (t - 0) v h2
  have ht' : t < vs.length := by
    rcases Nat.lt_or_ge t vs.length with h | h
    · exact h
    · simp [List.getElem?_eq_none h] at hx
  have : (vs.toArray ++ Array.replicate (fn.ntmps - vs.toArray.size) undef).getD t undef = x := by
    rw [Array.getD_eq_getD_getElem?, Array.getElem?_append_left (by simpa using ht')]
    simpa using congrArg (Option.getD · undef) hx
  rwa [this]

/-- A deferred function that does not recover. -/
theorem defA_of {f : FuncId} {fn : Func} {c : Code} {as : List AV} {p : Option AV} {H : List AObj} {Q : Option AV → List AObj → Prop} (hf : P.funcs[f]? = some fn) (hb : fn.body = some c) (hs : as.length ≤ fn.ntmps)
    (h : ACode P c (fnPost P fn fun e H' => match e with
      | .ret _ => Q p H'
      | .panic v => p = none ∧ Q (some v) H') ⟨envOf 0 as, [], fn.ntmps, H⟩) : DefA P f as p H Q := by
  refine ⟨fun G W vs u hv r hm => ?_⟩
  refine (callsD_of_wp (u := u) hf hb (R := fun e W' => match e with
    | .returned _ => ∃ H' G', Q p H' ∧ R G' H' W' ∧ G.le G'
    | .panicked chain => p = none ∧ ∃ v x H' G', chain = [{ v := x, recovered := false }] ∧ Rv G' v x ∧ Q (some v) H' ∧ R G' H' W' ∧ G.le G'
    | .outgrown => False) (wp_mono (h G W _ (act_start hv hs) r) ?_)).mono ?_
  · rintro e a' W' ⟨ae, s', G', q, rx, ra, r', l⟩
    cases rx with
    | normal =>
      obtain ⟨hd, v, hres, hq⟩ := q
      obtain ⟨x, hx, hv⟩ := hres G' W' a' ra r'
      exact ⟨RD.nil_inv (hd ▸ ra.defs), x, hx, s'.H, G', hq, r', l⟩
    | ret =>
      obtain ⟨hd, v, hres, hq⟩ := q
      obtain ⟨x, hx, hv⟩ := hres G' W' a' ra r'
      exact ⟨RD.nil_inv (hd ▸ ra.defs), x, hx, s'.H, G', hq, r', l⟩
    | panic hv => exact ⟨RD.nil_inv (q.1 ▸ ra.defs), q.2.1, _, _, s'.H, G', rfl, hv, q.2.2, r', l⟩
    | exit id => exact q.elim
    | goto m => exact q.elim
  · rintro e u' W' ⟨rfl, he⟩
    cases e with
    | returned v =>
      obtain ⟨H', G', hq, r', l⟩ := he
      exact ⟨p, H', G', hq, (hm.mono l).settle, r', l⟩
    | panicked chain =>
      obtain ⟨rfl, v, x, H', G', rfl, hv, hq, r', l⟩ := he
      cases hm
      exact ⟨some v, H', G', hq, .panicking hv, r', l⟩
    | outgrown => exact he.elim

/-- A deferred function that recovers first. -/
def recOp (o : Oper) : Bool := match o.op with
  | .call { callee := .builtin .recover, args := xs, argTypes := _ } => xs.isEmpty && o.guard.isNone
  | _ => false
theorem run_recover {o : Oper} (h : recOp o = true) (a : Act) (W : World) : (execOp a.eval o).run P W = .ok .recover W ∧ o.guard = none := by
  unfold recOp at h
  split at h
  · rename_i xs ts hop
    simp only [Bool.and_eq_true, Array.isEmpty_iff, Option.isNone_iff_eq_none] at h
    obtain ⟨rfl, hg⟩ := h
    refine ⟨?_, hg⟩
    unfold execOp
    simp only [hop]
    simp [resolve, invoke, builtin]
  · cases h

theorem defA_rec {f : FuncId} {fn : Func} {id : Nat} {ops : Array Oper} {o : Oper} {d : Nat} {rest : Code} {as : List AV} {p : Option AV} {H : List AObj} {Q : Option AV → List AObj → Prop} (hf : P.funcs[f]? = some fn) (hb : fn.body = some (.seq (.region id ops false) rest)) (hops : ops = #[o]) (hr : recOp o = true) (hd : o.dst = some d) (hdn : d < fn.ntmps) (hs : as.length ≤ fn.ntmps)
    (h : ACode P rest (fnPost P fn fun e H' => match e with
      | .ret _ => Q none H'
      | .panic v => p = none ∧ Q (some v) H') ⟨(d, p.getD .nili) :: envOf 0 as, [], fn.ntmps, H⟩) : DefA P f as p H Q := by
  subst hops
  refine ⟨fun G W vs u hv r hm => ?_⟩
  have ra0 := act_start (H := H) hv hs
  have hsz : (vs.toArray ++ Array.replicate (fn.ntmps - vs.toArray.size) undef).size = fn.ntmps := ra0.size
  refine callsD_of_wpS hf hb ?_
  intro c₀ cs hu
  refine wpS_seq (wpS_region ?_)
  have hrange : List.range #[o].size = [0] := rfl
  rw [hrange]
  simp only [wpOpsS, List.getElem?_toArray, List.getElem?_cons_zero]
  obtain ⟨hrun, hg⟩ := run_recover (P := P) hr { tmps := vs.toArray ++ Array.replicate (fn.ntmps - vs.toArray.size) undef, defers := [] } W
  rw [if_pos (by simp [Region.wanted, hg]), hrun]
  dsimp only
  have fin : ∀ (x : Value) (u' : FrameMode) (c₁ : Frame), Rv G (p.getD .nili) x → c₁ = { c₀ with mode := u' } → Go.settle u' = .returning → (p = none → u' = .returning) → (Exit.thenS (rest.wpS P (bodyPostS P fn c₀ cs fun e u' W' =>
      match e with
      | .returned _ => ∃ p' H' G', Q p' H' ∧ RM G' p' (Go.settle u') ∧ R G' H' W' ∧ G.le G'
      | .panicked chain => ∃ p' H' G', Q p' H' ∧ RM G' p' (raised u' chain) ∧ R G' H' W' ∧ G.le G'
      | .outgrown => False)) (bodyPostS P fn c₀ cs fun e u' W' =>
      match e with
      | .returned _ => ∃ p' H' G', Q p' H' ∧ RM G' p' (Go.settle u') ∧ R G' H' W' ∧ G.le G'
      | .panicked chain => ∃ p' H' G', Q p' H' ∧ RM G' p' (raised u' chain) ∧ R G' H' W' ∧ G.le G'
      | .outgrown => False)) Exit.normal (Act.put { tmps := vs.toArray ++ Array.replicate (fn.ntmps - vs.toArray.size) undef, defers := [] } o.dst x) (c₁ :: cs) W := by
    rintro x u' c₁ hx rfl hset hnone
    show rest.wpS P _ _ _ _
    refine wpS_of_wp (wp_mono (h G W _ ?_ r) ?_)
    · have := ra0.put (d := some d) (by simpa [dstOK] using hdn) hx
      rw [hd]; exact this
    · rintro e a' W' ⟨ae, s', G', q, rx, ra, r', l⟩
      cases rx with
      | normal =>
        obtain ⟨hd', v, hres, hq⟩ := q
        obtain ⟨y, hy, _⟩ := hres G' W' a' ra r'
        exact ⟨RD.nil_inv (hd' ▸ ra.defs), u', rfl, y, hy, none, s'.H, G', hq, by rw [hset]; exact .returning, r', l⟩
      | ret =>
        obtain ⟨hd', v, hres, hq⟩ := q
        obtain ⟨y, hy, _⟩ := hres G' W' a' ra r'
        exact ⟨RD.nil_inv (hd' ▸ ra.defs), u', rfl, y, hy, none, s'.H, G', hq, by rw [hset]; exact .returning, r', l⟩
      | panic hv' =>
        obtain ⟨hd', hp, hq⟩ := q
        refine ⟨RD.nil_inv (hd' ▸ ra.defs), u', rfl, some _, s'.H, G', hq, ?_, r', l⟩
        rw [hnone hp]
        exact .panicking hv'
      | exit id => exact q.elim
      | goto m => exact q.elim
  cases hm with
  | returning =>
    have hrec : recoverD (c₀ :: cs) = none := by simp [recoverD, hu]
    rw [hrec]
    exact fin .nilIface .returning c₀ .nili (by rw [← hu]) rfl (fun _ => rfl)
  | @panicking v x hvx =>
    have hrec : recoverD (c₀ :: cs) = some (x, { c₀ with mode := .panicking [{ v := x, recovered := true }] } :: cs) := by simp [recoverD, hu]
    rw [hrec]
    exact fin x (.panicking [{ v := x, recovered := true }]) _ hvx rfl rfl (fun h => by cases h)
end
end Go.Abs
