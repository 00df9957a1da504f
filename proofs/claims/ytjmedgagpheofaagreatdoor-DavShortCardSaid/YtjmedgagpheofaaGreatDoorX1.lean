/- The abstract layer, made to run: what an operation yields that reads no object. -/
import Derived.Test.YtjmedgagpheofaaGreatDoorF6
import Derived.Test.YtjmedgagpheofaaGreatDoorF7
import Derived.Test.YtjmedgagpheofaaGreatDoorFA
set_option linter.unusedSectionVars false
set_option linter.unusedVariables false
set_option linter.unusedSimpArgs false
set_option linter.constructorNameAsVariable false
namespace Go.Abs
open Go.RowKit
variable [Tabs]

abbrev Env := List (Nat × AV)
def lookF (t : Nat) : Env → Option AV
  | [] => none
  | (u, v) :: E => bif Nat.beq t u then some v else lookF t E
theorem lookF_eq (t : Nat) : ∀ E : Env, lookF t E = look t E
  | [] => rfl
  | (u, v) :: E => by
    simp only [lookF, look, lookF_eq t E]
    by_cases h : t = u
    · subst h; simp
    · have : Nat.beq t u = false := by
        cases h' : Nat.beq t u with
        | false => rfl
        | true => exact absurd (Nat.eq_of_beq_eq_true h') h
      simp [this, h]
def evE (E : Env) : Operand → Option AV
  | .tmp t => lookF t E
  | .const v => AV.ofValue v
  | .func f => some (.func (.func f) [])
  | .global _ => none
def Ext (E : Env) (s : ASt) : Prop := ∀ t v, look t E = some v → look t s.env = some v
theorem evE_ev {E : Env} {s : ASt} (h : Ext E s) {x : Operand} {v : AV} (hx : evE E x = some v) : s.ev x = some v := by
  cases x with
  | tmp t => simp only [evE, lookF_eq] at hx; exact h _ _ hx
  | const c => exact hx
  | func f => exact hx
  | global g => simp [evE] at hx
def evsE (E : Env) : List Operand → Option (List AV)
  | [] => some []
  | x :: xs => match evE E x, evsE E xs with
    | some v, some vs => some (v :: vs)
    | _, _ => none
theorem evsE_evs {E : Env} {s : ASt} (h : Ext E s) : ∀ {xs : List Operand} {vs : List AV}, evsE E xs = some vs → evs s xs = some vs
  | [], vs, hv => by simpa [evsE, evs] using hv
  | x :: xs, vs, hv => by
    simp only [evsE] at hv
    split at hv
    · rename_i v us h1 h2
      simp only [Option.some.injEq] at hv; subst hv
      simp [evs, evE_ev h h1, evsE_evs h h2]
    · simp at hv
def evpE (E : Env) : List (Nat × Operand) → Option (List (Nat × AV))
  | [] => some []
  | (i, x) :: xs => match evE E x, evpE E xs with
    | some v, some vs => some ((i, v) :: vs)
    | _, _ => none
theorem evpE_evp {E : Env} {s : ASt} (h : Ext E s) : ∀ {xs : List (Nat × Operand)} {vs : List (Nat × AV)}, evpE E xs = some vs → evp s xs = some vs
  | [], vs, hv => by simpa [evpE, evp] using hv
  | (i, x) :: xs, vs, hv => by
    simp only [evpE] at hv
    split at hv
    · rename_i v us h1 h2
      simp only [Option.some.injEq] at hv; subst hv
      simp [evp, evE_ev h h1, evpE_evp h h2]
    · simp at hv

/-! ### Binary operations -/
def evalInt (op : BinOp) (k : IntKind) (a : Int) (k' : IntKind) (b : Int) : Option AV :=
  match op with
  | .shl => if b < 0 then none else some (.int k (k.wrap (a * 2 ^ (min b.toNat k.bits))))
  | .shr => if b < 0 then none else some (.int k (a.fdiv (2 ^ (min b.toNat k.bits))))
  | .quo => if k = k' then (if b = 0 then none else some (.int k (k.wrap (a.tdiv b)))) else none
  | .rem => if k = k' then (if b = 0 then none else some (.int k (a.tmod b))) else none
  | .and => if k = k' then some (.int k (k.wrap ((BitVec.ofInt k.bits a) &&& (BitVec.ofInt k.bits b)).toNat)) else none
  | .or => if k = k' then some (.int k (k.wrap ((BitVec.ofInt k.bits a) ||| (BitVec.ofInt k.bits b)).toNat)) else none
  | .xor => if k = k' then some (.int k (k.wrap ((BitVec.ofInt k.bits a) ^^^ (BitVec.ofInt k.bits b)).toNat)) else none
  | .andNot => if k = k' then some (.int k (k.wrap ((BitVec.ofInt k.bits a) &&& ~~~(BitVec.ofInt k.bits b)).toNat)) else none
  | _ => none
theorem evalInt_run {P : Program} {op : BinOp} {t : TypeId} {x y : Operand} {k k' : IntKind} {a b : Int} {v : AV} {G : Gh} (h : evalInt op k a k' b = some v) (W : World) :
    ∃ z, (do eqGuard op t x y (.int k a) (.int k' b); binOp op t (.int k a) (.int k' b) : Sem Value).run P W = .ok z W ∧ Rv G v z := by
  unfold evalInt at h
  split at h
  · split at h
    · simp at h
    · rename_i hb
      simp only [Option.some.injEq] at h; subst h
      exact ⟨_, by simp [eqGuard, binOp, Op.shift, hb], .int _ _⟩
  · split at h
    · simp at h
    · rename_i hb
      simp only [Option.some.injEq] at h; subst h
      exact ⟨_, by simp [eqGuard, binOp, Op.shift, hb], .int _ _⟩
  · split at h
    · rename_i e; subst e
      split at h
      · simp at h
      · rename_i hb
        simp only [Option.some.injEq] at h; subst h
        exact ⟨_, by simp [eqGuard, binOp, Op.intDiv, hb], .int _ _⟩
    · simp at h
  · split at h
    · rename_i e; subst e
      split at h
      · simp at h
      · rename_i hb
        simp only [Option.some.injEq] at h; subst h
        exact ⟨_, by simp [eqGuard, binOp, Op.intDiv, hb], .int _ _⟩
    · simp at h
  all_goals first
    | (split at h
       · rename_i e; subst e
         simp only [Option.some.injEq] at h; subst h
         exact ⟨_, by simp [eqGuard, binOp, Op.intBits], .int _ _⟩
       · simp at h)
    | simp at h

/-- Is a value nil? By its type, at the literal nil. -/
def isNil : TypeDesc → AV → Value → Option Bool
  | .pointer _, .nilp, .pointer none => some true
  | .pointer _, .ptr _ _, .pointer none => some false
  | .pointer _, .iptr _, .pointer none => some false
  | .slice _, .nils, .slice none _ _ => some true
  | .slice _, .lst (_ :: _) _, .slice none _ _ => some false
  | .slice _, .lst [] (some _), .slice none _ _ => some false
  | .slice _, .emp, .slice none _ _ => some false
  | .slice _, .slc _ _ _ _, .slice none _ _ => some false
  | .map _ _, .nilm, .map none => some true
  | .map _ _, .mapv _, .map none => some false
  | .func _ _ _, .nilf, .nilFunc => some true
  | .func _ _ _, .func _ _, .nilFunc => some false
  | .interface _, .nili, .nilIface => some true
  | .interface _, .iface _ _, .nilIface => some false
  | _, _, _ => none
theorem isNil_equal {P : Program} {G : Gh} {d : TypeDesc} {t : TypeId} {a : AV} {u c : Value} {b : Bool} (hd : P.underlying t = some d) (ha : Rv G a u) (hn : isNil d a c = some b) (W : World) :
    (Op.equal t u c).run P W = .ok b W := by
  have key : ∀ n, (Op.equalIn (n + 1) t u c).run P W = .ok b W := by
    intro n
    unfold isNil at hn
    split at hn <;> first
      | (simp only [reduceCtorEq] at hn; done)
      | (simp only [Option.some.injEq] at hn; subst hn; cases ha <;> simp [Op.equalIn, underlying, hd])
  exact key 9999
theorem isNil_run {P : Program} {G : Gh} {d : TypeDesc} {t : TypeId} {a : AV} {u c : Value} {b : Bool} {x : Operand} (hd : P.underlying t = some d) (ha : Rv G a u) (hn : isNil d a c = some b) (W : World) :
    (do eqGuard .eql t x (.const c) u c; binOp .eql t u c : Sem Value).run P W = .ok (.bool b) W ∧ (do eqGuard .neq t x (.const c) u c; binOp .neq t u c : Sem Value).run P W = .ok (.bool (!b)) W := by
  have he := isNil_equal hd ha hn W
  have h1 : ∀ op, op = .eql ∨ op = .neq → (eqGuard op t x (.const c) u c).run P W = .ok () W := by
    intro op hop
    unfold isNil at hn
    split at hn <;> first
      | (simp only [reduceCtorEq] at hn; done)
      | (cases ha <;> rcases hop with rfl | rfl <;> first | rfl | simp [eqGuard])
  have h2 : binOp .eql t u c = (do pure (.bool (← Op.equal t u c))) := by
    unfold isNil at hn
    split at hn <;> first
      | (simp only [reduceCtorEq] at hn; done)
      | (cases ha <;> rfl)
  have h3 : binOp .neq t u c = (do pure (.bool (!(← Op.equal t u c)))) := by
    unfold isNil at hn
    split at hn <;> first
      | (simp only [reduceCtorEq] at hn; done)
      | (cases ha <;> rfl)
  constructor
  · rw [Sem.run_bind, h1 _ (.inl rfl), h2]; simp [Sem.run_bind, he]
  · rw [Sem.run_bind, h1 _ (.inr rfl), h3]; simp [Sem.run_bind, he]
end Go.Abs
