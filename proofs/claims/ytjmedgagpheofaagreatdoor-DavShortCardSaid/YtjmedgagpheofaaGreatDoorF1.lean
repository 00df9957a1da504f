/- The abstract layer: states, codes, regions, calls; the rules of control. -/
import Derived.Test.YtjmedgagpheofaaGreatDoorF0
set_option linter.unusedSectionVars false
set_option linter.unusedVariables false
set_option linter.unusedSimpArgs false
set_option linter.constructorNameAsVariable false
namespace Go.Abs
open Go.RowKit
variable [Tabs]

/-- What an operand is, told from what temporaries are known. -/
structure ASt where
  env : List (Nat × AV)
  defs : List (FuncId × List AV)
  n : Nat
  H : List AObj

def look (t : Nat) : List (Nat × AV) → Option AV
  | [] => none
  | (u, v) :: E => if t = u then some v else look t E

def AV.ofValue : Value → Option AV
  | .bool b => some (.bool b)
  | .int k n => some (.int k n)
  | .string s => some (.str s.data.toList)
  | .pointer none => some .nilp
  | .slice none 0 0 => some .nils
  | .nilFunc => some .nilf
  | .map none => some .nilm
  | .nilIface => some .nili
  | _ => none

def ASt.ev (s : ASt) : Operand → Option AV
  | .tmp t => look t s.env
  | .const v => AV.ofValue v
  | .func f => some (.func (.func f) [])
  | .global _ => none

def ASt.put (s : ASt) (d : Option Tmp) (v : AV) : ASt :=
  match d with
  | some d => { s with env := (d, v) :: s.env }
  | none => s

/-- 'dst' lies in the frame. -/
def dstOK (d : Option Tmp) (n : Nat) : Bool := match d with | some d => decide (d < n) | none => true

inductive RD (G : Gh) : List (FuncId × List AV) → List Deferred → Prop
  | nil : RD G [] []
  | cons {f : FuncId} {as : List AV} {vs ws : List Value} {l : List (FuncId × List AV)} {ds : List Deferred} : RvL G as (vs ++ ws) → RD G l ds → RD G ((f, as) :: l) ({ target := .fn (.func f) ws.toArray, args := vs.toArray } :: ds)

structure RA (G : Gh) (s : ASt) (a : Act) : Prop where
  size : a.tmps.size = s.n
  env : ∀ t v, look t s.env = some v → Rv G v (a.tmps.getD t undef)
  defs : RD G s.defs a.defers

theorem RD.mono {G G' : Gh} (h : G.le G') : ∀ {l : List (FuncId × List AV)} {ds : List Deferred}, RD G l ds → RD G' l ds
  | _, _, .nil => .nil
  | _, _, .cons hl hd => .cons (hl.mono h) (RD.mono h hd)
theorem RA.mono {G G' : Gh} (h : G.le G') {s : ASt} {a : Act} (r : RA G s a) : RA G' s a := ⟨r.size, fun t v hv => (r.env t v hv).mono h, r.defs.mono h⟩

inductive AExit where
  | normal
  | exit (id : Nat)
  | goto (l : Nat)
  | ret
  | panic (v : AV)

inductive RX (G : Gh) : AExit → Exit → Prop
  | normal : RX G .normal .normal
  | exit (id : Nat) : RX G (.exit id) (.exit id)
  | goto (l : Nat) : RX G (.goto l) (.goto l)
  | ret : RX G .ret .ret
  | panic {v : AV} {x : Value} : Rv G v x → RX G (.panic v) (.panic [{ v := x, recovered := false }])

abbrev APost := AExit → ASt → Prop

def lift (G0 : Gh) (Q : APost) : Exit → Act → World → Prop := fun e a W => ∃ ae s G, Q ae s ∧ RX G ae e ∧ RA G s a ∧ R G s.H W ∧ G0.le G
def liftN (G0 : Gh) (N : ASt → Prop) : Act → World → Prop := fun a W => ∃ s G, N s ∧ RA G s a ∧ R G s.H W ∧ G0.le G

theorem lift.mono {G0 : Gh} {Q Q' : APost} (h : ∀ e s, Q e s → Q' e s) {e : Exit} {a : Act} {W : World} (hl : lift G0 Q e a W) : lift G0 Q' e a W :=
  let ⟨ae, s, G, q, r⟩ := hl; ⟨ae, s, G, h _ _ q, r⟩
theorem lift.le {G0 G1 : Gh} {Q : APost} (h : G0.le G1) {e : Exit} {a : Act} {W : World} (hl : lift G1 Q e a W) : lift G0 Q e a W :=
  let ⟨ae, s, G, q, rx, ra, r, l⟩ := hl; ⟨ae, s, G, q, rx, ra, r, h.trans l⟩

def ACode (P : Program) (c : Code) (Q : APost) (s : ASt) : Prop := ∀ G W a, RA G s a → R G s.H W → c.wp P (lift G Q) a W
def AOps (P : Program) (ops : Array Oper) (l : List Nat) (Q : APost) (s : ASt) : Prop := ∀ G W a, RA G s a → R G s.H W → wpOps P ops (lift G Q) l a W
def AOp (P : Program) (o : Oper) (N : ASt → Prop) (Q : APost) (s : ASt) : Prop := ∀ G W a, RA G s a → R G s.H W → o.wp P a W (liftN G N) (lift G Q)

section control
variable {P : Program} {Q Q' : APost} {s : ASt}
theorem ACode.mono {c : Code} (h : ACode P c Q s) (hq : ∀ e s, Q e s → Q' e s) : ACode P c Q' s :=
  fun G W a ra r => wp_mono (h G W a ra r) fun _ _ _ => lift.mono hq

def AThen (N : ASt → Prop) (Q : APost) : APost
  | .normal, s => N s
  | e, s => Q e s

theorem AThen.not_normal {N : ASt → Prop} {e : AExit} (h : e ≠ .normal) (s : ASt) : AThen N Q e s = Q e s := by cases e <;> first | rfl | exact absurd rfl h

theorem c_skip (h : Q .normal s) : ACode P .skip Q s := fun G W a ra r => wp_skip ⟨.normal, s, G, h, .normal, ra, r, .refl G⟩
theorem c_exit {id : Nat} (h : Q (.exit id) s) : ACode P (.exit id) Q s := fun G W a ra r => wp_exit ⟨_, s, G, h, .exit id, ra, r, .refl G⟩
theorem c_goto {l : Nat} (h : Q (.goto l) s) : ACode P (.goto l) Q s := fun G W a ra r => wp_goto ⟨_, s, G, h, .goto l, ra, r, .refl G⟩
theorem c_ret (h : Q .ret s) : ACode P .ret Q s := fun G W a ra r => wp_ret ⟨_, s, G, h, .ret, ra, r, .refl G⟩

theorem c_seq {x y : Code} (h : ACode P x (AThen (fun s' => ACode P y Q s') Q) s) : ACode P (.seq x y) Q s := by
  intro G W a ra r
  refine wp_seq (wp_mono (h G W a ra r) ?_)
  rintro e a' W' ⟨ae, s', G', q, rx, ra', r', l⟩
  cases rx with
  | normal => exact wp_mono (q G' W' a' ra' r') fun _ _ _ => lift.le l
  | exit id => exact ⟨_, s', G', q, .exit id, ra', r', l⟩
  | goto m => exact ⟨_, s', G', q, .goto m, ra', r', l⟩
  | ret => exact ⟨_, s', G', q, .ret, ra', r', l⟩
  | panic hv => exact ⟨_, s', G', q, .panic hv, ra', r', l⟩

theorem ev_eval {G : Gh} {a : Act} (ra : RA G s a) {x : Operand} {v : AV} (h : s.ev x = some v) : Rv G v (a.eval x) := by
  cases x with
  | tmp t => exact ra.env t v h
  | func f => simp only [ASt.ev, Option.some.injEq] at h; subst h; exact .func .nil
  | global g => simp [ASt.ev] at h
  | const c =>
    simp only [ASt.ev] at h
    show Rv G v c
    unfold AV.ofValue at h
    split at h <;> simp only [Option.some.injEq, reduceCtorEq] at h <;> subst h
    · exact .bool _
    · exact .int _ _
    · exact .str _
    · exact .nilp
    · exact .nils
    · exact .nilf
    · exact .nilm
    · exact .nili

theorem c_cond {c : Operand} {x y : Code} {t : Bool} (hc : s.ev c = some (.bool t)) (hx : t = true → ACode P x Q s) (hy : t = false → ACode P y Q s) : ACode P (.cond c x y) Q s := by
  intro G W a ra r
  have h := ev_eval ra hc
  have he : a.eval c = .bool t := by generalize a.eval c = x at h ⊢; cases h; rfl
  cases t with
  | true => exact wp_cond_true he (hx rfl G W a ra r)
  | false => exact wp_cond_false he (hy rfl G W a ra r)

def AInBlock (id : Nat) (Q : APost) : APost
  | .exit id', s => if id' = id then Q .normal s else Q (.exit id') s
  | e, s => Q e s

theorem c_block {id : Nat} {c : Code} (h : ACode P c (AInBlock id Q) s) : ACode P (.block id c) Q s := by
  intro G W a ra r
  refine wp_block (wp_mono (h G W a ra r) ?_)
  rintro e a' W' ⟨ae, s', G', q, rx, ra', r', l⟩
  cases rx with
  | normal => exact ⟨_, s', G', q, .normal, ra', r', l⟩
  | exit id' =>
    simp only [AInBlock, Exit.inBlock] at q ⊢
    split
    · rename_i h; rw [if_pos h] at q; exact ⟨_, s', G', q, .normal, ra', r', l⟩
    · rename_i h; rw [if_neg h] at q; exact ⟨_, s', G', q, .exit id', ra', r', l⟩
  | goto m => exact ⟨_, s', G', q, .goto m, ra', r', l⟩
  | ret => exact ⟨_, s', G', q, .ret, ra', r', l⟩
  | panic hv => exact ⟨_, s', G', q, .panic hv, ra', r', l⟩

/-- A loop, by what holds at each round's head and a number that goes down. -/
theorem c_loop {c : Code} (I : Nat → ASt → Prop) {n : Nat} (h0 : I n s)
    (round : ∀ n s, I n s → ACode P c (AThen (fun s' => ∃ m, m < n ∧ I m s') Q) s) : ACode P (.loop c) Q s := by
  intro G W a ra r b k cs
  have key : ∀ n s G W a, I n s → RA G s a → R G s.H W →
      ∃ e a' w', lift G Q e a' w' ∧ Arrives P (lone (b.at a (.code c :: .inLoop c :: k)) cs W) b k cs e a' w' := by
    intro n
    induction n using Nat.strongRecOn with
    | _ n ih =>
      intro s G W a hI ra r
      obtain ⟨e, a₁, w₁, ⟨ae, s', G', q, rx, ra', r', l⟩, harr⟩ := round n s hI G W a ra r b (.inLoop c :: k) cs
      cases rx with
      | normal =>
        obtain ⟨m, hm, hI'⟩ := q
        obtain ⟨e₂, a₂, w₂, hq₂, harr₂⟩ := ih m hm s' G' w₁ a₁ hI' ra' r'
        exact ⟨e₂, a₂, w₂, hq₂.le l, .of_steps (Steps.trans harr (.one step_inLoop)) harr₂⟩
      | exit id => exact ⟨_, a₁, w₁, ⟨_, s', G', q, .exit id, ra', r', l⟩, .pass (x := .inLoop c) rfl (fun _ _ => .inl (by simp)) harr⟩
      | goto m => exact ⟨_, a₁, w₁, ⟨_, s', G', q, .goto m, ra', r', l⟩, .pass (x := .inLoop c) rfl (fun _ _ => .inl (by simp)) harr⟩
      | ret => exact ⟨_, a₁, w₁, ⟨_, s', G', q, .ret, ra', r', l⟩, .pass (x := .inLoop c) rfl (fun _ _ => .inl (by simp)) harr⟩
      | panic hv => exact ⟨_, a₁, w₁, ⟨_, s', G', q, .panic hv, ra', r', l⟩, .pass (x := .inLoop c) rfl (fun _ _ => .inl (by simp)) harr⟩
  obtain ⟨e, a', w', hq, harr⟩ := key n s G W a h0 ra r
  exact ⟨e, a', w', hq, .of_steps (.one step_loop) harr⟩

/-- Forgetting temporaries, or telling them otherwise. -/
theorem c_env {c : Code} {s' : ASt} (h : ACode P c Q s') (hn : s'.n = s.n) (hd : s'.defs = s.defs) (hH : s'.H = s.H) (he : ∀ t v, look t s'.env = some v → look t s.env = some v) : ACode P c Q s := by
  intro G W a ra r
  exact h G W a ⟨ra.size.trans hn.symm, fun t v hv => ra.env t v (he t v hv), hd ▸ ra.defs⟩ (hH ▸ r)

theorem c_region {id : Nat} {ops : Array Oper} (h : AOps P ops (List.range ops.size) Q s) : ACode P (.region id ops false) Q s :=
  fun G W a ra r => wp_region (h G W a ra r)

theorem o_nil {ops : Array Oper} (h : Q .normal s) : AOps P ops [] Q s := fun G W a ra r => ⟨.normal, s, G, h, .normal, ra, r, .refl G⟩

theorem upon_mono {o : Oper} {a : Act} {N N' : Act → World → Prop} {K K' : Exit → Act → World → Prop} (hN : ∀ a w, N a w → N' a w) (hK : ∀ e a w, K e a w → K' e a w)
    (res : Result Next) (h : o.upon P a N K res) : o.upon P a N' K' res := by
  have hout : LetsOut K → LetsOut K' := fun ⟨a, w, h⟩ => ⟨a, w, hK _ _ _ h⟩
  unfold Oper.upon at h ⊢
  split at h
  · exact hN _ _ h
  · exact hN _ _ h
  · exact hN _ _ h
  · refine Calls.mono h ?_
    intro e w' he
    cases e with
    | returned v => exact hN _ _ he
    | panicked c => exact hK _ _ _ he
    | outgrown => exact hout he
  · exact Rows.mono h fun v w' hv => hN _ _ hv
  · exact hK _ _ _ h
  · exact h.elim

theorem o_cons {ops : Array Oper} {i : Nat} {l : List Nat} {o : Oper} (ho : ops[i]? = some o) (hg : o.guard = none) (h : AOp P o (fun s' => AOps P ops l Q s') Q s) : AOps P ops (i :: l) Q s := by
  intro G W a ra r
  simp only [wpOps, ho]
  rw [if_pos (by simp [Region.wanted, hg])]
  refine .inl (upon_mono ?_ (fun _ _ _ h => h) _ (h G W a ra r))
  rintro a' W' ⟨s', G', hn, ra', r', l'⟩
  have key := hn G' W' a' ra' r'
  exact wpOps_le l' key
where
  wpOps_le {G G' : Gh} (hle : G.le G') {ops : Array Oper} : ∀ {l : List Nat} {a : Act} {W : World}, wpOps P ops (lift G' Q) l a W → wpOps P ops (lift G Q) l a W := by
    intro l
    induction l with
    | nil => intro a W h; exact lift.le hle h
    | cons i l ih =>
      intro a W h
      simp only [wpOps] at h ⊢
      split
      · rename_i ho; rw [ho] at h; exact ih h
      · rename_i o ho
        rw [ho] at h
        simp only at h
        split
        · rename_i hw
          rw [if_pos hw] at h
          rcases h with h | ⟨h1, a', w', h2⟩
          · exact .inl (upon_mono (fun a w => ih) (fun _ _ _ => lift.le hle) _ h)
          · exact .inr ⟨h1, a', w', lift.le hle h2⟩
        · rename_i hw
          rw [if_neg hw] at h
          exact ih h

/-- A guarded operation whose guard says no, yes; or is not known. -/
theorem yielded_of {G : Gh} {a : Act} {ops : Array Oper} {j d : Nat} {oj : Oper} {b : Bool} (ra : RA G s a) (hj : ops[j]? = some oj) (hd : oj.dst = some d) (hn : decide (d < s.n) = true) (hv : look d s.env = some (.bool b)) :
    yielded ops a.tmps j = some b := by
  have h := ra.env d _ hv
  have hlt : d < a.tmps.size := by rw [ra.size]; exact of_decide_eq_true hn
  have hx : a.tmps[d]? = some (.bool b) := by
    rw [Array.getElem?_eq_getElem hlt]
    have e : a.tmps.getD d undef = a.tmps[d] := by simp [Array.getD, hlt]
    rw [e] at h
    generalize a.tmps[d] = x at h ⊢
    cases h; rfl
  simp [yielded, hj, hd, hx]

theorem RA.put {G : Gh} {a : Act} (ra : RA G s a) {d : Option Tmp} {v : AV} {x : Value} (hn : dstOK d s.n = true) (hv : Rv G v x) : RA G (s.put d v) (a.put d x) := by
  cases d with
  | none => exact ra
  | some d =>
    have hlt : d < a.tmps.size := by rw [ra.size]; exact of_decide_eq_true hn
    refine ⟨by simpa [ASt.put, Act.put] using ra.size, ?_, ra.defs⟩
    intro t u hu
    simp only [ASt.put, look] at hu
    simp only [Act.put]
    split at hu
    · rename_i h; subst h
      simp only [Option.some.injEq] at hu; subst hu
      simpa [Array.getD, hlt] using hv
    · rename_i h
      have := ra.env t u hu
      simpa [Array.getD_eq_getD_getElem?, Array.getElem?_setIfInBounds, Ne.symm h] using this

theorem o_skip {ops : Array Oper} {i j d : Nat} {l : List Nat} {o oj : Oper} {b w : Bool} (ho : ops[i]? = some o) (hg : o.guard = some (j, w)) (hj : ops[j]? = some oj) (hd : oj.dst = some d) (hn : decide (d < s.n) = true)
    (hv : look d s.env = some (.bool b)) (hb : b ≠ w) (hdst : dstOK o.dst s.n = true) (h : AOps P ops l Q (s.put o.dst (.tuple []))) : AOps P ops (i :: l) Q s := by
  intro G W a ra r
  simp only [wpOps, ho]
  rw [if_neg (by simp only [Region.wanted, hg, yielded_of ra hj hd hn hv]; cases b <;> cases w <;> first | exact absurd rfl hb | decide)]
  exact h G W _ (ra.put hdst (.tuple .nil)) (by cases o.dst <;> exact r)

theorem yielded_undef {G : Gh} {a : Act} {ops : Array Oper} {j d : Nat} {oj : Oper} (ra : RA G s a) (hj : ops[j]? = some oj) (hd : oj.dst = some d) (hv : look d s.env = some (.tuple [])) :
    yielded ops a.tmps j = none := by
  have h := ra.env d _ hv
  unfold yielded
  simp only [hj, Option.bind_some, hd]
  by_cases hlt : d < a.tmps.size
  · rw [Array.getElem?_eq_getElem hlt]
    have e : a.tmps.getD d undef = a.tmps[d] := by simp [Array.getD, hlt]
    rw [e] at h
    generalize a.tmps[d] = x at h ⊢
    cases h; rfl
  · rw [Array.getElem?_eq_none (by omega)]

theorem o_skip_u {ops : Array Oper} {i j d : Nat} {l : List Nat} {o oj : Oper} {w : Bool} (ho : ops[i]? = some o) (hg : o.guard = some (j, w)) (hj : ops[j]? = some oj) (hd : oj.dst = some d)
    (hv : look d s.env = some (.tuple [])) (hdst : dstOK o.dst s.n = true) (h : AOps P ops l Q (s.put o.dst (.tuple []))) : AOps P ops (i :: l) Q s := by
  intro G W a ra r
  simp only [wpOps, ho]
  rw [if_neg (by simp only [Region.wanted, hg, yielded_undef ra hj hd hv]; cases w <;> decide)]
  exact h G W _ (ra.put hdst (.tuple .nil)) (by cases o.dst <;> exact r)

theorem o_do {ops : Array Oper} {i j d : Nat} {l : List Nat} {o oj : Oper} {b w : Bool} (ho : ops[i]? = some o) (hg : o.guard = some (j, w)) (hj : ops[j]? = some oj) (hd : oj.dst = some d) (hn : decide (d < s.n) = true)
    (hv : look d s.env = some (.bool b)) (hb : b = w) (h : AOp P o (fun s' => AOps P ops l Q s') Q s) : AOps P ops (i :: l) Q s := by
  intro G W a ra r
  simp only [wpOps, ho]
  rw [if_pos (by simp only [Region.wanted, hg, yielded_of ra hj hd hn hv]; subst hb; simp)]
  refine .inl (upon_mono ?_ (fun _ _ _ h => h) _ (h G W a ra r))
  rintro a' W' ⟨s', G', hn, ra', r', l'⟩
  exact o_cons.wpOps_le l' (hn G' W' a' ra' r')

theorem o_split {ops : Array Oper} {l : List Nat} {d : Nat} {b : Bool} (hv : look d s.env = some (.bool b)) (ht : b = true → AOps P ops l Q { s with env := (d, .bool true) :: s.env }) (hf : b = false → AOps P ops l Q { s with env := (d, .bool false) :: s.env }) : AOps P ops l Q s := by
  have key : ∀ G W a, RA G s a → R G s.H W → RA G { s with env := (d, .bool b) :: s.env } a := by
    intro G W a ra r
    refine ⟨ra.size, ?_, ra.defs⟩
    intro t u hu
    simp only [look] at hu
    split at hu
    · rename_i h; subst h; simp only [Option.some.injEq] at hu; subst hu; exact ra.env _ _ hv
    · exact ra.env t u hu
  intro G W a ra r
  cases b with
  | true => exact ht rfl G W a (key G W a ra r) r
  | false => exact hf rfl G W a (key G W a ra r) r

/-- An operation that hands back a value and leaves the world. -/
theorem op_val {o : Oper} {N : ASt → Prop} {v : AV} (hdst : dstOK o.dst s.n = true) (h : ∀ G W a, RA G s a → R G s.H W → ∃ x, (execOp a.eval o).run P W = .ok (.value x) W ∧ Rv G v x) (hN : N (s.put o.dst v)) : AOp P o N Q s := by
  intro G W a ra r
  obtain ⟨x, hx, hv⟩ := h G W a ra r
  unfold Oper.wp
  rw [hx, Oper.upon_value]
  exact ⟨_, G, hN, ra.put hdst hv, by cases o.dst <;> exact r, .refl G⟩
end control

/-! ### Calls -/
inductive AEnd where
  | ret (v : AV)
  | panic (v : AV)
inductive RE (G : Gh) : AEnd → Ending → Prop
  | ret {v : AV} {x : Value} : Rv G v x → RE G (.ret v) (.returned x)
  | panic {v : AV} {x : Value} : Rv G v x → RE G (.panic v) (.panicked [{ v := x, recovered := false }])

structure CallsA (P : Program) (f : FuncId) (args : List AV) (H : List AObj) (Q : AEnd → List AObj → Prop) : Prop where
  out : ∀ G W vs, RvL G args vs → R G H W → Calls P f vs.toArray W fun e W' => ∃ ae H' G', Q ae H' ∧ RE G' ae e ∧ R G' H' W' ∧ G.le G'

theorem CallsA.mono {P : Program} {f : FuncId} {args : List AV} {H : List AObj} {Q Q' : AEnd → List AObj → Prop} (h : CallsA P f args H Q) (hq : ∀ e H, Q e H → Q' e H) : CallsA P f args H Q' :=
  ⟨fun G W vs hv r => (h.out G W vs hv r).mono fun _ _ ⟨ae, H', G', q, rest⟩ => ⟨ae, H', G', hq _ _ q, rest⟩⟩

/-- A function that only computes. -/
abbrev Pure (P : Program) (f : FuncId) (args : List AV) (H : List AObj) (v : AV) : Prop := CallsA P f args H fun e H' => e = .ret v ∧ H' = H

def envOf : Nat → List AV → List (Nat × AV)
  | _, [] => []
  | i, v :: vs => (i, v) :: envOf (i + 1) vs

theorem look_envOf : ∀ (vs : List AV) (i t : Nat) (v : AV), look t (envOf i vs) = some v → i ≤ t ∧ vs[t - i]? = some v
  | [], i, t, v, h => by simp [envOf, look] at h
  | u :: vs, i, t, v, h => by
    simp only [envOf, look] at h
    split at h
    · rename_i e; subst e; simpa using h
    · obtain ⟨h1, h2⟩ := look_envOf vs (i + 1) t v h
      refine ⟨by omega, ?_⟩
      rw [show t - i = (t - (i + 1)) + 1 by omega]
      simpa using h2

def resultsA (P : Program) (fn : Func) (s : ASt) (v : AV) : Prop := ∀ G W a, RA G s a → R G s.H W → ∃ x, (results fn a.tmps).run P W = .ok x W ∧ Rv G v x

def fnPost (P : Program) (fn : Func) (Q : AEnd → List AObj → Prop) : APost
  | .normal, s | .ret, s => s.defs = [] ∧ ∃ v, resultsA P fn s v ∧ Q (.ret v) s.H
  | .panic v, s => s.defs = [] ∧ Q (.panic v) s.H
  | _, _ => False

theorem RD.nil_inv {G : Gh} {ds : List Deferred} (h : RD G [] ds) : ds = [] := by cases h; rfl

theorem callsA_of {P : Program} {f : FuncId} {fn : Func} {c : Code} {args : List AV} {H : List AObj} {Q : AEnd → List AObj → Prop} (hf : P.funcs[f]? = some fn) (hb : fn.body = some c) (hs : decide (args.length ≤ fn.ntmps) = true)
    (h : ACode P c (fnPost P fn Q) ⟨envOf 0 args, [], fn.ntmps, H⟩) : CallsA P f args H Q := by
  refine ⟨fun G W vs hv r => ?_⟩
  have hs := of_decide_eq_true hs
  have hl := hv.length
  refine calls_of_wp hf hb (wp_mono (h G W _ ⟨?_, ?_, .nil⟩ r) ?_)
  · simp; omega
  · intro t v ht
    obtain ⟨_, h2⟩ := look_envOf args 0 t v ht
    obtain ⟨x, hx, hr⟩ := hv.get (t - 0) v h2
    have ht' : t < vs.length := by
      rcases Nat.lt_or_ge t vs.length with h | h
      · exact h
      · simp [List.getElem?_eq_none h] at hx
    have : (vs.toArray ++ Array.replicate (fn.ntmps - vs.toArray.size) undef).getD t undef = x := by
      rw [Array.getD_eq_getD_getElem?, Array.getElem?_append_left (by simpa using ht')]
      simpa using congrArg (Option.getD · undef) hx
    rwa [this]
  · rintro e a' W' ⟨ae, s', G', q, rx, ra, r', l⟩
    cases rx with
    | normal =>
      obtain ⟨hd, v, hres, hq⟩ := q
      obtain ⟨x, hx, hv⟩ := hres G' W' a' ra r'
      exact ⟨RD.nil_inv (hd ▸ ra.defs), x, hx, .ret v, s'.H, G', hq, .ret hv, r', l⟩
    | ret =>
      obtain ⟨hd, v, hres, hq⟩ := q
      obtain ⟨x, hx, hv⟩ := hres G' W' a' ra r'
      exact ⟨RD.nil_inv (hd ▸ ra.defs), x, hx, .ret v, s'.H, G', hq, .ret hv, r', l⟩
    | panic hv => exact ⟨RD.nil_inv (q.1 ▸ ra.defs), .panic _, s'.H, G', q.2, .panic hv, r', l⟩
    | exit id => exact q.elim
    | goto m => exact q.elim

end Go.Abs
