/- The abstract layer, made to run: regions that draw, with new objects whenever they come; what is known of a region ahead is worked out once. -/
import Derived.Test.YtjmedgagpheofaaGreatDoorX8
import Derived.Test.YtjmedgagpheofaaGreatDoorFS
set_option linter.unusedSectionVars false
set_option linter.unusedVariables false
set_option linter.unusedSimpArgs false
set_option linter.constructorNameAsVariable false
namespace Go.Abs
open Go.RowKit
variable [Tabs]

/-! ### What is known of a region ahead -/
def forceN : Nat → Option Nat
  | 0 => some 0
  | n + 1 => some (n + 1)
theorem forceN_eq {a b : Nat} (h : forceN a = some b) : a = b := by cases a <;> simpa [forceN] using h
def forceNs : List Nat → Option (List Nat)
  | [] => some []
  | n :: ns => match forceN n, forceNs ns with
    | some m, some ms => some (m :: ms)
    | _, _ => none
theorem forceNs_eq : ∀ {a b : List Nat}, forceNs a = some b → a = b
  | [], b, h => by simpa [forceNs] using h
  | n :: ns, b, h => by
    simp only [forceNs] at h
    split at h
    · rename_i m ms h1 h2
      simp only [Option.some.injEq] at h; subst h
      rw [forceN_eq h1, forceNs_eq h2]
    · simp at h
def forceNP : List (Nat × Nat) → Option (List (Nat × Nat))
  | [] => some []
  | (x, y) :: ns => match forceN x, forceN y, forceNP ns with
    | some u, some v, some ms => some ((u, v) :: ms)
    | _, _, _ => none
theorem forceNP_eq : ∀ {a b : List (Nat × Nat)}, forceNP a = some b → a = b
  | [], b, h => by simpa [forceNP] using h
  | (x, y) :: ns, b, h => by
    simp only [forceNP] at h
    split at h
    · rename_i u v ms h1 h2 h3
      simp only [Option.some.injEq] at h; subst h
      rw [forceN_eq h1, forceN_eq h2, forceNP_eq h3]
    · simp at h
def forceON : Option Nat → Option (Option Nat)
  | none => some none
  | some n => match forceN n with
    | some m => some (some m)
    | none => none
theorem forceON_eq {a b : Option Nat} (h : forceON a = some b) : a = b := by
  cases a with
  | none => simpa [forceON] using h
  | some n =>
    simp only [forceON] at h
    split at h
    · rename_i m hm; simp only [Option.some.injEq] at h; subst h; rw [forceN_eq hm]
    · simp at h

def isNew : Op → Bool
  | .alloc _ => true
  | .box _ _ => true
  | .makeMap _ none => true
  | _ => false
def newO (o : Oper) : Bool := isNew o.op && o.guard.isNone
def isCallV : Op → Bool
  | .call { callee := .value _, .. } => true
  | _ => false

/-- One operation, with what is known of it. -/
structure OpS where
  o : Oper
  use : List (Nat × Nat)
  outs : List Nat
  gd : Option Nat
  sl : Option Nat
  anc : Nat
  hid : Nat
def guardDst (ops : Array Oper) (o : Oper) : Option Nat := o.guard.bind fun g => (ops[g.1]?).bind (·.dst)
def tmpsOf (ops : Array Oper) (o : Oper) : List Nat := (o.op.operands.toList.filterMap fun | .tmp t => some t | _ => none) ++ (match guardDst ops o with | some d => [d] | none => [])
def useOf (ops : Array Oper) (i : Nat) (ts : List Nat) : List (Nat × Nat) := (preds ops i).filterMap fun j => match dstOf ops j with
  | some d => bif ts.any (Nat.beq d) then some (d, j) else none
  | none => none
def isDst (os : List Oper) (t : Nat) : Bool := os.any fun o => match o.dst with
  | some d => Nat.beq d t
  | none => false
def ancOf (pr : List Nat) (acc : List Nat) : Nat := pr.foldl (fun m j => m ||| (1 <<< j) ||| acc.getD j 0) 0
/-- The new objects' places that an operation may not see. -/
def hidMask (anc : Nat) : Nat → Nat → List Oper → Nat
  | _, _, [] => 0
  | s, a, o :: os => bif newO o then (bif anc.testBit a then 0 else 1 <<< s) ||| hidMask anc (s + 1) (a + 1) os else hidMask anc s (a + 1) os
def opS (ops : Array Oper) (i s a : Nat) (o : Oper) : Option OpS :=
  match forceNs (tmpsOf ops o) with
  | some ts => match forceNP (useOf ops i ts), forceNs (ts.filter fun t => !isDst ops.toList t), forceON (guardDst ops o), forceN (hidMask a 0 0 ops.toList), forceN s with
    | some use, some outs, some gd, some h, some s => some ⟨o, use, outs, gd, bif newO o then some s else none, a, h⟩
    | _, _, _, _, _ => none
  | none => none
def regL (ops : Array Oper) : List Oper → Nat → Nat → List Nat → Option (List OpS)
  | [], _, _, _ => some []
  | o :: os, i, s, acc => match forceN (ancOf (preds ops i) acc) with
    | some a => match opS ops i s a o with
      | some x => match regL ops os (i + 1) (bif newO o then s + 1 else s) (acc ++ [a]) with
        | some xs => some (x :: xs)
        | none => none
      | none => none
    | none => none
def backL : List (List Nat) → Nat → Bool
  | [], _ => true
  | p :: ps, i => p.all (fun j => Nat.blt j i) && backL ps (i + 1)
def dstL : List Oper → Nat → Bool
  | [], _ => true
  | o :: os, m => match o.dst with
    | none => dstL os m
    | some d => !(m.testBit d) && dstL os (m ||| (1 <<< d))
def regS (ops : Array Oper) : Option (List OpS) := bif backL ((List.range ops.size).map (preds ops)) 0 && dstL ops.toList 0 then regL ops ops.toList 0 0 [] else none
def slCount : List Oper → Nat
  | [] => 0
  | o :: os => bif newO o then slCount os + 1 else slCount os

structure OpOK (ops : Array Oper) (i s : Nat) (x : OpS) : Prop where
  o : ops[i]? = some x.o
  use : ∀ p ∈ x.use, p.2 ∈ preds ops i ∧ dstOf ops p.2 = some p.1
  outs : ∀ t ∈ x.outs, ∀ j, dstOf ops j ≠ some t
  gd : ∀ j w, x.o.guard = some (j, w) → x.gd = (ops[j]?).bind (·.dst)
  sl : x.sl = if newO x.o then some s else none
  anc : ∀ e, x.anc.testBit e = true → Anc ops e i
  hid : x.hid = hidMask x.anc 0 0 ops.toList

theorem isDst_of {ops : Array Oper} {t j : Nat} (h : dstOf ops j = some t) : isDst ops.toList t = true := by
  unfold dstOf at h
  obtain ⟨o, ho, hd⟩ := Option.bind_eq_some_iff.1 h
  refine List.any_eq_true.2 ⟨o, ?_, by simp [hd]⟩
  rw [← Array.getElem?_toList] at ho
  exact List.mem_of_getElem? ho
theorem opS_ok {ops : Array Oper} {i s a : Nat} {o : Oper} {x : OpS} (ho : ops[i]? = some o) (ha : ∀ e, a.testBit e = true → Anc ops e i) (h : opS ops i s a o = some x) : OpOK ops i s x ∧ x.o = o ∧ x.anc = a := by
  unfold opS at h
  split at h
  · rename_i ts hts
    split at h
    · rename_i use outs gd hh s' h1 h2 h3 h4 h5
      simp only [Option.some.injEq] at h; subst h
      have h1 := (forceNP_eq h1).symm
      have h2 := (forceNs_eq h2).symm
      have h3 := (forceON_eq h3).symm
      have h4 := (forceN_eq h4).symm
      have h5 := (forceN_eq h5).symm
      refine ⟨⟨ho, fun p hp => ?_, fun t ht j hj => ?_, fun j w hg => ?_, ?_, ha, h4⟩, rfl, rfl⟩
      · simp only [h1, useOf] at hp
        obtain ⟨j, hj, he⟩ := List.mem_filterMap.1 hp
        split at he
        · rename_i d hd
          cases hb : ts.any (Nat.beq d) with
          | true =>
            rw [hb] at he
            simp only [cond_true, Option.some.injEq] at he; subst he
            exact ⟨hj, hd⟩
          | false => rw [hb] at he; simp at he
        · simp at he
      · simp only [h2] at ht
        have := (List.mem_filter.1 ht).2
        rw [isDst_of hj] at this; cases this
      · simp only [h3, guardDst]
        simp only at hg
        rw [hg]; rfl
      · simp only [h5]
        cases newO o <;> simp
    · simp at h
  · simp at h

theorem ancOf_ok {ops : Array Oper} {i : Nat} {acc : List Nat} (hacc : ∀ j e, j < acc.length → (acc.getD j 0).testBit e = true → Anc ops e j) : ∀ (pr : List Nat) (m : Nat), (∀ j ∈ pr, j ∈ preds ops i) → (∀ e, m.testBit e = true → Anc ops e i) → ∀ e, (pr.foldl (fun m j => m ||| (1 <<< j) ||| acc.getD j 0) m).testBit e = true → Anc ops e i
  | [], m, _, hm, e, h => hm e h
  | j :: pr, m, hp, hm, e, h => by
    refine ancOf_ok hacc pr _ (fun q hq => hp q (List.mem_cons_of_mem _ hq)) (fun e hb => ?_) e h
    rw [Nat.testBit_or, Nat.testBit_or, Bool.or_eq_true, Bool.or_eq_true] at hb
    rcases hb with (hb | hb) | hb
    · exact hm e hb
    · have : j = e := by
        rw [Nat.one_shiftLeft, Nat.testBit_two_pow] at hb
        simpa using hb
      subst this
      exact .one (hp j (by simp))
    · by_cases hj : j < acc.length
      · exact .step (hp j (by simp)) (hacc j e hj hb)
      · rw [List.getD_eq_getElem?_getD, List.getElem?_eq_none (by omega)] at hb
        simp at hb

/-- The new objects' numbers among the region's operations. -/
def slR : Nat → List Oper → List (Option Nat)
  | _, [] => []
  | k, o :: os => bif newO o then some k :: slR (k + 1) os else none :: slR k os
theorem regL_ok {ops : Array Oper} : ∀ (os : List Oper) (i s : Nat) (acc : List Nat) (xs : List OpS), (∀ j, ops[i + j]? = os[j]?) → acc.length = i → (∀ j e, j < acc.length → (acc.getD j 0).testBit e = true → Anc ops e j) → regL ops os i s acc = some xs →
    xs.length = os.length ∧ ∀ j x, xs[j]? = some x → ∃ s', OpOK ops (i + j) s' x ∧ x.sl = (slR s os).getD j none
  | [], i, s, acc, xs, _, _, _, h => by
    simp only [regL, Option.some.injEq] at h; subst h
    exact ⟨rfl, fun j x hx => by simp at hx⟩
  | o :: os, i, s, acc, xs, ho, hl, hacc, h => by
    simp only [regL] at h
    split at h
    · rename_i a ha
      have ha := forceN_eq ha
      split at h
      · rename_i x hx
        split at h
        · rename_i xs' hxs
          simp only [Option.some.injEq] at h; subst h
          have ho0 : ops[i]? = some o := by have := ho 0; simpa using this
          have hanc : ∀ e, a.testBit e = true → Anc ops e i := fun e he => ancOf_ok hacc (preds ops i) 0 (fun _ h => h) (by simp) e (by rw [← ha] at he; exact he)
          obtain ⟨hk, hxo, hxa⟩ := opS_ok ho0 hanc hx
          have hacc' : ∀ j e, j < (acc ++ [a]).length → ((acc ++ [a]).getD j 0).testBit e = true → Anc ops e j := by
            intro j e hj hb
            rw [List.getD_eq_getElem?_getD] at hb
            by_cases hji : j < acc.length
            · rw [List.getElem?_append_left hji, ← List.getD_eq_getElem?_getD] at hb
              exact hacc j e hji hb
            · have hji : j = i := by simp at hj; omega
              subst hji
              rw [List.getElem?_append_right (by omega), hl, Nat.sub_self] at hb
              exact hanc e (by simpa using hb)
          obtain ⟨l1, hall⟩ := regL_ok os (i + 1) _ _ xs' (fun j => by
            have := ho (j + 1)
            rw [List.getElem?_cons_succ] at this
            rw [← this]; congr 1; omega) (by simp [hl]) hacc' hxs
          refine ⟨by simp [l1], fun j y hy => ?_⟩
          cases j with
          | zero =>
            simp only [List.getElem?_cons_zero, Option.some.injEq] at hy; subst hy
            refine ⟨s, hk, ?_⟩
            rw [hk.sl, hxo]
            simp only [slR]
            cases newO o <;> simp
          | succ j =>
            obtain ⟨s', h1, h2⟩ := hall j y (by simpa using hy)
            refine ⟨s', by rw [show i + (j + 1) = i + 1 + j by omega]; exact h1, ?_⟩
            rw [h2]
            simp only [slR]
            cases newO o <;> simp
        · simp at h
      · simp at h
    · simp at h

theorem backL_ok : ∀ (ps : List (List Nat)) (i : Nat), backL ps i = true → ∀ j p, ps[j]? = some p → ∀ q ∈ p, q < i + j
  | [], _, _, j, p, h, _, _ => by simp at h
  | p :: ps, i, h, 0, p', hp, q, hq => by
    simp only [backL, Bool.and_eq_true, List.all_eq_true] at h
    simp only [List.getElem?_cons_zero, Option.some.injEq] at hp; subst hp
    exact blt_of (h.1 q hq)
  | p :: ps, i, h, j + 1, p', hp, q, hq => by
    simp only [backL, Bool.and_eq_true] at h
    have := backL_ok ps (i + 1) h.2 j p' (by simpa using hp) q hq
    omega
theorem dstL_ok : ∀ (os : List Oper) (m : Nat), dstL os m = true → (∀ (i : Nat) (o : Oper) (d : Nat), os[i]? = some o → o.dst = some d → m.testBit d = false) ∧ ∀ (i j : Nat) (o o' : Oper) (d : Nat), i < j → os[i]? = some o → os[j]? = some o' → o.dst = some d → o'.dst ≠ some d
  | [], m, _ => ⟨fun i o d h => by simp at h, fun i j o o' d _ h => by simp at h⟩
  | x :: os, m, h => by
    simp only [dstL] at h
    cases hx : x.dst with
    | none =>
      rw [hx] at h
      obtain ⟨h1, h2⟩ := dstL_ok os m h
      refine ⟨fun i o d ho hd => ?_, fun i j o o' d hij ho ho' hd => ?_⟩
      · cases i with
        | zero => simp only [List.getElem?_cons_zero, Option.some.injEq] at ho; subst ho; rw [hx] at hd; cases hd
        | succ i => exact h1 i o d (by simpa using ho) hd
      · cases i with
        | zero => simp only [List.getElem?_cons_zero, Option.some.injEq] at ho; subst ho; rw [hx] at hd; cases hd
        | succ i => cases j with
          | zero => omega
          | succ j => exact h2 i j o o' d (by omega) (by simpa using ho) (by simpa using ho') hd
    | some y =>
      rw [hx] at h
      simp only [Bool.and_eq_true, Bool.not_eq_true'] at h
      obtain ⟨h1, h2⟩ := dstL_ok os _ h.2
      have hm : ∀ d, (m ||| 1 <<< y).testBit d = false → m.testBit d = false ∧ d ≠ y := by
        intro d hb
        rw [Nat.testBit_or, Bool.or_eq_false_iff] at hb
        refine ⟨hb.1, ?_⟩
        rintro rfl
        rw [Nat.one_shiftLeft, Nat.testBit_two_pow] at hb
        simp at hb
      refine ⟨fun i o d ho hd => ?_, fun i j o o' d hij ho ho' hd => ?_⟩
      · cases i with
        | zero => simp only [List.getElem?_cons_zero, Option.some.injEq] at ho; subst ho; rw [hx] at hd; cases hd; exact h.1
        | succ i => exact (hm d (h1 i o d (by simpa using ho) hd)).1
      · cases i with
        | zero =>
          simp only [List.getElem?_cons_zero, Option.some.injEq] at ho; subst ho
          rw [hx] at hd; cases hd
          cases j with
          | zero => omega
          | succ j =>
            intro hd'
            exact (hm y (h1 j o' y (by simpa using ho') hd')).2 rfl
        | succ i => cases j with
          | zero => omega
          | succ j => exact h2 i j o o' d (by omega) (by simpa using ho) (by simpa using ho') hd

structure RegOK (ops : Array Oper) (xs : List OpS) : Prop where
  len : xs.length = ops.size
  op : ∀ i x, xs[i]? = some x → ∃ s, OpOK ops i s x ∧ x.sl = (slR 0 ops.toList).getD i none
  back : ∀ i j, j ∈ preds ops i → j < i
  apart : ∀ i j d, i < ops.size → j < ops.size → i ≠ j → dstOf ops i = some d → dstOf ops j ≠ some d
theorem regS_ok {ops : Array Oper} {xs : List OpS} (h : regS ops = some xs) : RegOK ops xs := by
  unfold regS at h
  obtain ⟨h1, h⟩ := bif_some h
  rw [Bool.and_eq_true] at h1
  obtain ⟨hl, hall⟩ := regL_ok ops.toList 0 0 [] xs (fun j => by rw [Nat.zero_add, Array.getElem?_toList]) rfl (by simp) h
  refine ⟨by simpa using hl, fun i x hx => ?_, fun i j hj => ?_, fun i j d hi hj hne hd hd' => ?_⟩
  · obtain ⟨s, h1, h2⟩ := hall i x hx
    rw [Nat.zero_add] at h1
    exact ⟨s, h1, h2⟩
  · have hi : i < ops.size := by
      rcases Nat.lt_or_ge i ops.size with h | h
      · exact h
      · unfold preds at hj; rw [Array.getElem?_eq_none h] at hj; simp at hj
    have := backL_ok _ _ h1.1 i (preds ops i) (by simp [hi]) j hj
    omega
  · obtain ⟨_, h2⟩ := dstL_ok _ _ h1.2
    unfold dstOf at hd hd'
    obtain ⟨o, ho, hod⟩ := Option.bind_eq_some_iff.1 hd
    obtain ⟨o', ho', hod'⟩ := Option.bind_eq_some_iff.1 hd'
    rw [← Array.getElem?_toList] at ho ho'
    rcases Nat.lt_or_gt_of_ne hne with h | h
    · exact h2 i j o o' d h ho ho' hod hod'
    · exact h2 j i o' o d h ho' ho hod' hod

/-! ### One operation -/
def selR : List (Nat × Nat) → List AV → Env → Env
  | [], _, E => E
  | (d, j) :: l, rs, E => (d, rs.getD j (.tuple [])) :: selR l rs E
def selE : List Nat → Env → Env
  | [], _ => []
  | t :: l, E => match lookF t E with
    | some v => (t, v) :: selE l E
    | none => selE l E
theorem look_selE {t : Nat} {v : AV} {E : Env} : ∀ {l : List Nat}, look t (selE l E) = some v → t ∈ l ∧ look t E = some v
  | [], h => by simp [selE, look] at h
  | u :: l, h => by
    simp only [selE] at h
    split at h
    · rename_i w hw
      simp only [look] at h
      split at h
      · rename_i e; subst e
        simp only [Option.some.injEq] at h; subst h
        rw [lookF_eq] at hw
        exact ⟨by simp, hw⟩
      · have := look_selE h; exact ⟨List.mem_cons_of_mem _ this.1, this.2⟩
    · have := look_selE h; exact ⟨List.mem_cons_of_mem _ this.1, this.2⟩
theorem look_selR {t : Nat} {v : AV} {E : Env} {rs : List AV} : ∀ {l : List (Nat × Nat)}, look t (selR l rs E) = some v → (∃ j, (t, j) ∈ l ∧ rs.getD j (.tuple []) = v) ∨ look t E = some v
  | [], h => .inr h
  | (d, j) :: l, h => by
    simp only [selR, look] at h
    split at h
    · rename_i e; subst e
      exact .inl ⟨j, by simp, by simpa using h⟩
    · rcases look_selR h with ⟨j', h1, h2⟩ | h1
      · exact .inl ⟨j', List.mem_cons_of_mem _ h1, h2⟩
      · exact .inr h1
def envS (x : OpS) (rs : List AV) (E : Env) : Env := selR x.use rs (selE x.outs E)
theorem ext_envS {ops : Array Oper} {i s n : Nat} {x : OpS} (hx : OpOK ops i s x) {E : Env} {D : Dfs} {H : List AObj} {rs : List AV} {res : Nat → AV} {s' : ASt} (hm : Mid ops ⟨E, D, n, H⟩ s' res i) (hr : ∀ j, j ∈ preds ops i → rs.getD j (.tuple []) = res j) : Ext (envS x rs E) s' := by
  intro t v h
  rcases look_selR h with ⟨j, hj, hv⟩ | h
  · obtain ⟨h1, h2⟩ := hx.use _ hj
    rw [← hv, hr j h1]
    exact hm.preds j t h1 h2
  · obtain ⟨h1, h2⟩ := look_selE h
    exact hm.outer t v (hx.outs t h1) h2

def xDraw1F (P : Program) (call : CallF) (n : Nat) (E : Env) (H : List AObj) (o : Oper) (gd : Option Tmp) : Option (AV × List AObj × Kd × Nat) :=
    let go : Option (AV × List AObj × Kd × Nat) := bif dstOK o.dst n && stOK o then (match xPure P E o.op with
      | some v => some (v, H, .pure, inf)
      | none => match xEff P call E H o.op with
        | some (.go v H' low) => bif Nat.ble H.length low && Nat.beq H'.length H.length then some (v, H, .quiet, inf) else some (v, H', .eff, low)
        | _ => none) else none
    match o.guard with
    | none => go
    | some (_, w) => match gd with
        | none => none
        | some d => match lookF d E with
          | some (.bool b) => bif Nat.blt d n then (match b, w with
            | true, true => go
            | false, false => go
            | _, _ => bif dstOK o.dst n then some (.tuple [], H, .pure, inf) else none) else none
          | some (.tuple []) => bif dstOK o.dst n then some (.tuple [], H, .pure, inf) else none
          | _ => none
theorem xDraw1F_ok {P : Program} {call : CallF} (hc : CallHyp P call) {ops : Array Oper} {n : Nat} {EE : Env} {H H' : List AObj} {i low : Nat} {v : AV} {k : Kd} {o : Oper} {gd : Option Tmp} (ho : ops[i]? = some o) (hgd : ∀ j w, o.guard = some (j, w) → gd = (ops[j]?).bind (·.dst)) (h : xDraw1F P call n EE H o gd = some (v, H', k, low)) :
    Same low H H' ∧ (k ≠ .eff → H' = H) ∧ ∀ s', Ext EE s' → s'.n = n → (k ≠ .pure → s'.H = H) → ∀ N Q, N (ASt.put { s' with H := if k = .eff then H' else s'.H } (dstOf ops i) v) → AOp1 P ops i N Q s' := by
  unfold xDraw1F at h
  · dsimp only at h
    have hdst : dstOf ops i = o.dst := by simp [dstOf, ho]
    rw [hdst]
    have hgo : ∀ {x : Option (AV × List AObj × Kd × Nat)}, x = some (v, H', k, low) → x = (bif dstOK o.dst n && stOK o then (match xPure P EE o.op with
      | some v => some (v, H, .pure, inf)
      | none => match xEff P call EE H o.op with
        | some (.go v H' low) => bif Nat.ble H.length low && Nat.beq H'.length H.length then some (v, H, .quiet, inf) else some (v, H', .eff, low)
        | _ => none) else none) → Same low H H' ∧ (k ≠ .eff → H' = H) ∧ ∀ s', Ext EE s' → s'.n = n → (k ≠ .pure → s'.H = H) → ∀ N Q, N (ASt.put { s' with H := if k = .eff then H' else s'.H } o.dst v) → AOp P o N Q s' := by
      intro x hx h
      rw [hx] at h
      obtain ⟨h1, h⟩ := bif_some h.symm
      rw [Bool.and_eq_true] at h1
      split at h
      · rename_i hp
        simp only [Option.some.injEq, Prod.mk.injEq] at h
        obtain ⟨rfl, rfl, rfl, rfl⟩ := h
        refine ⟨Same.refl _, fun _ => rfl, fun s' hE hn _ N Q hN => xPure_ok rfl hp hE (by rw [hn]; exact h1.1) ?_⟩
        rw [if_neg (by simp)] at hN
        exact hN
      · split at h
        · rename_i v' H2 low' he
          have key : ∀ s', Ext EE s' → s'.n = n → s'.H = H → ∀ (N : ASt → Prop) (Q : APost), Same low' H H2 ∧ (N (ASt.put { s' with H := H2 } o.dst v') → AOp P o N Q s') := by
            intro s' hE hn hH N Q
            have := xEff_ok (Q := Q) (N := N) (s := s') (o := o) hc.ok rfl (by rw [hH]; exact he) hE (by rw [hn]; exact h1.1) h1.2
            rw [hH] at this
            exact this
          have hsame : Same low' H H2 := (key ⟨EE, [], n, H⟩ (fun _ _ h => h) rfl rfl (fun _ => True) (fun _ _ => True)).1
          cases hb : (Nat.ble H.length low' && Nat.beq H2.length H.length) with
          | true =>
            rw [hb] at h
            simp only [cond_true, Option.some.injEq, Prod.mk.injEq] at h
            obtain ⟨rfl, rfl, rfl, rfl⟩ := h
            simp only [Bool.and_eq_true] at hb
            have hl1 := Nat.le_of_ble_eq_true hb.1
            have hl2 := Nat.eq_of_beq_eq_true hb.2
            have e : H2 = H := by
              apply List.ext_getElem?
              intro q
              by_cases hq : q < H.length
              · exact hsame.2 q (by omega) hq
              · rw [List.getElem?_eq_none (by omega), List.getElem?_eq_none (by omega)]
            subst e
            refine ⟨Same.refl _, fun _ => rfl, fun s' hE hn hH N Q hN => ?_⟩
            have hH := hH (by simp)
            refine (key s' hE hn hH N Q).2 ?_
            rw [if_neg (by simp), hH] at hN
            exact hN
          | false =>
            rw [hb] at h
            simp only [cond_false, Option.some.injEq, Prod.mk.injEq] at h
            obtain ⟨rfl, rfl, rfl, rfl⟩ := h
            refine ⟨hsame, by simp, fun s' hE hn hH N Q hN => ?_⟩
            refine (key s' hE hn (hH (by simp)) N Q).2 ?_
            rw [if_pos rfl] at hN
            exact hN
        · simp at h
    split at h
    · rename_i hg
      obtain ⟨i1, i2, i3⟩ := hgo h rfl
      exact ⟨i1, i2, fun s' hE hn hH N Q hN => op1 ho hg (i3 s' hE hn hH N Q hN)⟩
    · rename_i j w hg
      have hgd2 := hgd j w hg
      split at h
      · simp at h
      · rename_i d
        obtain ⟨oj, hj, hd⟩ := Option.bind_eq_some_iff.1 hgd2.symm
        · skip
          split at h
          · rename_i b hb
            rw [lookF_eq] at hb
            obtain ⟨hn, h⟩ := bif_some h
            have hn : d < n := Nat.le_of_ble_eq_true (show Nat.ble (d + 1) n = true from hn)
            split at h
            · obtain ⟨i1, i2, i3⟩ := hgo h rfl
              exact ⟨i1, i2, fun s' hE hn' hH N Q hN => op1_do ho hg hj hd (by rw [hn']; exact decide_eq_true hn) (hE _ _ hb) rfl (i3 s' hE hn' hH N Q hN)⟩
            · obtain ⟨i1, i2, i3⟩ := hgo h rfl
              exact ⟨i1, i2, fun s' hE hn' hH N Q hN => op1_do ho hg hj hd (by rw [hn']; exact decide_eq_true hn) (hE _ _ hb) rfl (i3 s' hE hn' hH N Q hN)⟩
            · rename_i hne1 hne2
              obtain ⟨h1, h⟩ := bif_some h
              simp only [Option.some.injEq, Prod.mk.injEq] at h
              obtain ⟨rfl, rfl, rfl, rfl⟩ := h
              refine ⟨Same.refl _, fun _ => rfl, fun s' hE hn' hH N Q hN => op1_skip ho hg hj hd (by rw [hn']; exact decide_eq_true hn) (hE _ _ hb) ?_ (by rw [hn']; exact h1) ?_⟩
              · intro e; subst e
                cases b
                · exact hne2 rfl rfl
                · exact hne1 rfl rfl
              · rw [if_neg (by simp)] at hN; exact hN
          · rename_i hb
            rw [lookF_eq] at hb
            obtain ⟨h1, h⟩ := bif_some h
            simp only [Option.some.injEq, Prod.mk.injEq] at h
            obtain ⟨rfl, rfl, rfl, rfl⟩ := h
            refine ⟨Same.refl _, fun _ => rfl, fun s' hE hn' hH N Q hN => op1_skip_u ho hg hj hd (hE _ _ hb) (by rw [hn']; exact h1) ?_⟩
            rw [if_neg (by simp)] at hN; exact hN
          · simp at h

/-- The object that an operation loads from. -/
def ldS (E : Env) (o : Oper) : Option Nat :=
  match o.op with
    | .load _ x => match evE E x with
      | some (.ptr k _) => some k
      | _ => none
    | _ => none
/-- A load of an old object that nobody writes: whatever else lies in the heap. -/
theorem xDraw1F_load {P : Program} {call : CallF} {ops : Array Oper} {n : Nat} {EE : Env} {H H' : List AObj} {i low k : Nat} {v : AV} {o : Oper} {gd : Option Tmp} (ho : ops[i]? = some o) (hgd : ∀ j w, o.guard = some (j, w) → gd = (ops[j]?).bind (·.dst)) (h : xDraw1F P call n EE H o gd = some (v, H', .quiet, low)) (hld : ldS EE o = some k) :
    ∀ s', Ext EE s' → s'.n = n → s'.H[k]? = H[k]? → ∀ N Q, N (ASt.put s' (dstOf ops i) v) → AOp1 P ops i N Q s' := by
  unfold ldS at hld
  · skip
    split at hld
    · rename_i t x hop
      split at hld
      · rename_i k' i0 hx
        simp only [Option.some.injEq] at hld; subst hld
        unfold xDraw1F at h
        dsimp only at h
        have hdst : dstOf ops i = o.dst := by simp [dstOf, ho]
        rw [hdst]
        have hp : xPure P EE o.op = none := by rw [hop]; rfl
        have hgo : ∀ {y : Option (AV × List AObj × Kd × Nat)}, y = some (v, H', .quiet, low) → y = (bif dstOK o.dst n && stOK o then (match xPure P EE o.op with
            | some v => some (v, H, .pure, inf)
            | none => match xEff P call EE H o.op with
              | some (.go v H' low) => bif Nat.ble H.length low && Nat.beq H'.length H.length then some (v, H, .quiet, inf) else some (v, H', .eff, low)
              | _ => none) else none) → ∀ s', Ext EE s' → s'.n = n → s'.H[k']? = H[k']? → ∀ N Q, N (ASt.put s' o.dst v) → AOp P o N Q s' := by
          intro y hy h s' hE hn hH N Q hN
          rw [hy] at h
          obtain ⟨h1, h⟩ := bif_some h.symm
          rw [Bool.and_eq_true] at h1
          rw [hp] at h
          dsimp only at h
          cases hl : xLoad P H t (.ptr k' i0) with
          | none => simp [hop, xEff, hx, hl] at h
          | some w =>
            simp only [hop, xEff, hx, hl] at h
            have hv : w = v := by
              cases hb : (Nat.ble H.length inf && Nat.beq H.length H.length) with
              | true => rw [hb] at h; simp only [cond_true, Option.some.injEq, Prod.mk.injEq] at h; exact h.1
              | false => rw [hb] at h; simp only [cond_false, Option.some.injEq, Prod.mk.injEq] at h; exact h.1
            subst hv
            exact xLoad_ok hop (by rw [hn]; exact h1.1) (evE_ev hE hx) (by rw [xLoad_congr hH]; exact hl) hN
        split at h
        · rename_i hg
          exact fun s' hE hn hH N Q hN => op1 ho hg (hgo h rfl s' hE hn hH N Q hN)
        · rename_i j w hg
          have hgd2 := hgd j w hg
          split at h
          · simp at h
          · rename_i d
            obtain ⟨oj, hj, hd⟩ := Option.bind_eq_some_iff.1 hgd2.symm
            · skip
              split at h
              · rename_i b hb
                rw [lookF_eq] at hb
                obtain ⟨hn', h⟩ := bif_some h
                have hn' : d < n := Nat.le_of_ble_eq_true (show Nat.ble (d + 1) n = true from hn')
                split at h
                · exact fun s' hE hn hH N Q hN => op1_do ho hg hj hd (by rw [hn]; exact decide_eq_true hn') (hE _ _ hb) rfl (hgo h rfl s' hE hn hH N Q hN)
                · exact fun s' hE hn hH N Q hN => op1_do ho hg hj hd (by rw [hn]; exact decide_eq_true hn') (hE _ _ hb) rfl (hgo h rfl s' hE hn hH N Q hN)
                · obtain ⟨_, h⟩ := bif_some h
                  simp at h
              · obtain ⟨_, h⟩ := bif_some h
                simp at h
              · simp at h
      · simp at hld
    · simp at hld



/-! ### The region -/
theorem slR_base : ∀ {os : List Oper} {k i r : Nat}, (slR k os).getD i none = some r → i < os.length ∧ k ≤ r ∧ r < k + slCount os ∧ ∃ o, os[i]? = some o ∧ newO o = true
  | [], _, _, _, h => by simp [slR] at h
  | o :: os, k, i, r, h => by
    simp only [slR, slCount] at h ⊢
    cases hb : newO o with
    | true =>
      rw [hb] at h
      simp only [cond_true] at h ⊢
      cases i with
      | zero =>
        simp only [List.getD_cons_zero, Option.some.injEq] at h; subst h
        exact ⟨by simp, Nat.le_refl _, by omega, o, rfl, hb⟩
      | succ i =>
        simp only [List.getD_cons_succ] at h
        obtain ⟨h1, h2, h3, o', h4, h5⟩ := slR_base h
        exact ⟨by simpa using h1, by omega, by omega, o', by simpa using h4, h5⟩
    | false =>
      rw [hb] at h
      simp only [cond_false] at h ⊢
      cases i with
      | zero => simp at h
      | succ i =>
        simp only [List.getD_cons_succ] at h
        obtain ⟨h1, h2, h3, o', h4, h5⟩ := slR_base h
        exact ⟨by simpa using h1, h2, h3, o', by simpa using h4, h5⟩
theorem slR_inj : ∀ {os : List Oper} {k i j r : Nat}, (slR k os).getD i none = some r → (slR k os).getD j none = some r → i = j
  | [], _, _, _, _, h, _ => by simp [slR] at h
  | o :: os, k, i, j, r, h, h' => by
    simp only [slR] at h h'
    cases hb : newO o with
    | true =>
      rw [hb] at h h'
      simp only [cond_true] at h h'
      cases i with
      | zero => cases j with
        | zero => rfl
        | succ j =>
          simp only [List.getD_cons_zero, List.getD_cons_succ, Option.some.injEq] at h h'
          have := (slR_base h').2.1; omega
      | succ i => cases j with
        | zero =>
          simp only [List.getD_cons_zero, List.getD_cons_succ, Option.some.injEq] at h h'
          have := (slR_base h).2.1; omega
        | succ j =>
          simp only [List.getD_cons_succ] at h h'
          rw [slR_inj h h']
    | false =>
      rw [hb] at h h'
      simp only [cond_false] at h h'
      cases i with
      | zero => simp at h
      | succ i => cases j with
        | zero => simp at h'
        | succ j =>
          simp only [List.getD_cons_succ] at h h'
          rw [slR_inj h h']
theorem hidMask_low {anc : Nat} : ∀ (os : List Oper) (s a r : Nat), r < s → (hidMask anc s a os).testBit r = false
  | [], _, _, _, _ => by simp [hidMask]
  | o :: os, s, a, r, h => by
    simp only [hidMask]
    cases newO o with
    | true =>
      simp only [cond_true]
      rw [Nat.testBit_or, hidMask_low os (s + 1) (a + 1) r (by omega)]
      cases anc.testBit a with
      | true => simp
      | false => simp only [cond_false, Bool.or_false]; rw [Nat.one_shiftLeft, Nat.testBit_two_pow]; simp; omega
    | false => exact hidMask_low os s (a + 1) r h
theorem hidMask_bit {anc : Nat} : ∀ (os : List Oper) (s a j r : Nat), (slR s os).getD j none = some r → (hidMask anc s a os).testBit r = !(anc.testBit (a + j))
  | [], _, _, _, _, h => by simp [slR] at h
  | o :: os, s, a, j, r, h => by
    simp only [hidMask]
    simp only [slR] at h
    cases hb : newO o with
    | true =>
      rw [hb] at h
      simp only [cond_true] at h ⊢
      rw [Nat.testBit_or]
      cases j with
      | zero =>
        simp only [List.getD_cons_zero, Option.some.injEq] at h; subst h
        rw [hidMask_low os (s + 1) (a + 1) s (by omega), Nat.add_zero]
        cases anc.testBit a with
        | true => simp
        | false => simp only [cond_false, Bool.or_false]; rw [Nat.one_shiftLeft, Nat.testBit_two_pow]; simp
      | succ j =>
        simp only [List.getD_cons_succ] at h
        have hr := (slR_base h).2.1
        rw [hidMask_bit os (s + 1) (a + 1) j r h, show a + 1 + j = a + (j + 1) by omega]
        cases anc.testBit a with
        | true => simp
        | false => simp only [cond_false]; rw [Nat.one_shiftLeft, Nat.testBit_two_pow]; simp; omega
    | false =>
      rw [hb] at h
      simp only [cond_false] at h ⊢
      cases j with
      | zero => simp at h
      | succ j =>
        simp only [List.getD_cons_succ] at h
        rw [hidMask_bit os s (a + 1) j r h, show a + 1 + j = a + (j + 1) by omega]

def hidX (n0 m xm hid r : Nat) : Bool := (Nat.ble n0 r && Nat.blt r (n0 + m) && hid.testBit (r - n0)) || xm.testBit r
def hideF (n0 m xm hid : Nat) (H : List AObj) : List AObj := bif Nat.beq hid 0 && Nat.beq xm 0 then H else hideL (hidX n0 m xm hid) 0 H
def showF (n0 m xm hid : Nat) (H H' : List AObj) : List AObj := bif Nat.beq hid 0 && Nat.beq xm 0 then H' else showL (hidX n0 m xm hid) 0 H H'
theorem hidX_zero {n0 m r : Nat} : hidX n0 m 0 0 r = false := by simp [hidX]
theorem hideF_eq {n0 m xm hid : Nat} {H : List AObj} : hideF n0 m xm hid H = hideL (hidX n0 m xm hid) 0 H := by
  unfold hideF
  cases hb : (Nat.beq hid 0 && Nat.beq xm 0) with
  | false => rfl
  | true =>
    rw [Bool.and_eq_true] at hb
    have h1 := Nat.eq_of_beq_eq_true hb.1
    have h2 := Nat.eq_of_beq_eq_true hb.2
    subst h1 h2
    apply List.ext_getElem?
    intro r
    rw [hideL_get, hidX_zero]; simp
theorem showF_eq {n0 m xm hid : Nat} {H H' : List AObj} : showF n0 m xm hid H H' = showL (hidX n0 m xm hid) 0 H H' := by
  unfold showF
  cases hb : (Nat.beq hid 0 && Nat.beq xm 0) with
  | false => rfl
  | true =>
    rw [Bool.and_eq_true] at hb
    have h1 := Nat.eq_of_beq_eq_true hb.1
    have h2 := Nat.eq_of_beq_eq_true hb.2
    subst h1 h2
    apply List.ext_getElem?
    intro r
    rw [showL_get]
    cases hh : H'[r]? with
    | none => simpa using hh
    | some x => cases hg : H[r]? <;> simpa [hidX_zero] using hh

def xNew (P : Program) (E : Env) (q : Nat) : Op → Option (AV × AObj)
  | .alloc t => match zeroC P t with
    | some cs => some (.ptr q 0, .cells t cs)
    | none => none
  | .box t x => match evE E x with
    | some v => some (.ptr q 0, .cells t v.cells)
    | none => none
  | .makeMap _ none => some (.mapv q, .map [] 0)
  | _ => none
structure DR where
  v : AV
  H : List AObj
  he : List AObj
  k : Kd
  ob : Option AObj
  low : Nat
  rd : Option Nat
  xm : Nat
def dr0 : DR := ⟨.tuple [], [], [], .pure, none, inf, none, 0⟩
def xS1b (P : Program) (call : CallF) (n n0 m : Nat) (x : OpS) (xm : Nat) (E : Env) (rs : List AV) (H : List AObj) : Option DR :=
  match (bif isCallV x.o.op then force (hideF n0 m xm x.hid H) else some (hideF n0 m xm x.hid H)) with
    | some Hh => match xDraw1F P call n (envS x rs E) Hh x.o x.gd with
      | some (v, Hh', k, low) => match k with
        | .eff => match force (showF n0 m xm x.hid H Hh') with
          | some H' => some ⟨v, H', Hh', .eff, none, low, none, xm⟩
          | none => none
        | .quiet => some ⟨v, H, Hh', .quiet, none, low, ldS (envS x rs E) x.o, xm⟩
        | .pure => some ⟨v, H, Hh', .pure, none, low, none, xm⟩
      | none => none
    | none => none
def xS1 (P : Program) (call : CallF) (n n0 m : Nat) (x : OpS) (xm : Nat) (E : Env) (rs : List AV) (H : List AObj) : Option DR :=
  match x.sl with
  | some s => bif dstOK x.o.dst n then (match xNew P (envS x rs E) (n0 + s) x.o.op with
    | some (v, ob) => match force (H.set (n0 + s) ob) with
      | some H' => some ⟨v, H', [], .pure, some ob, inf, none, 0⟩
      | none => none
    | none => none) else none
  | none => match xS1b P call n n0 m x xm E rs H with
    | some d => some d
    | none => bif Nat.beq xm 0 then none else xS1b P call n n0 m x 0 E rs H
def xSL (P : Program) (call : CallF) (n n0 m : Nat) (E : Env) : List OpS → List Nat → List AV → List AObj → Option (List DR)
  | [], _, _, _ => some []
  | x :: xs, xms, rs, H => match xS1 P call n n0 m x (xms.headD 0) E rs H with
    | some d => match xSL P call n n0 m E xs xms.tail (rs ++ [d.v]) d.H with
      | some ds => some (d :: ds)
      | none => none
    | none => none
def lowOf : List DR → Nat
  | [] => inf
  | d :: ds => minN d.low (lowOf ds)
def ordB (xs : List OpS) (e i : Nat) : Bool := bif Nat.blt e i then (match xs[i]? with | some x => x.anc.testBit e | none => false) else (match xs[e]? with | some x => x.anc.testBit i | none => false)
def hidAt (xs : List OpS) (ds : List DR) (n0 m e q : Nat) : Bool := match xs[e]? with
  | some x => hidX n0 m (ds.getD e dr0).xm x.hid q
  | none => false
/-- An object that an operation leaves as it is. -/
def stillB (xs : List OpS) (ds : List DR) (n0 m e q : Nat) : Bool := (Nat.blt q (n0 + m) && hidAt xs ds n0 m e q) || (Nat.blt q n0 && Nat.blt q (ds.getD e dr0).low)
def ordS (xs : List OpS) (ds : List DR) (n0 m : Nat) : Bool :=
  (List.range xs.length).all fun e => match (ds.getD e dr0).k with
    | .eff => (List.range xs.length).all fun i => Nat.beq e i || (match (ds.getD i dr0).k with
      | .pure => true
      | .eff => ordB xs e i
      | .quiet => ordB xs e i || (match (ds.getD i dr0).rd with
        | some q => stillB xs ds n0 m e q
        | none => false))
    | _ => true
/-- What the loads load from, as far as can be told ahead. -/
def xPreS (P : Program) (n0 : Nat) (E : Env) (H : List AObj) : List OpS → List AV → List (Option Nat)
  | [], _ => []
  | x :: xs, rs => match x.sl with
    | some s => none :: xPreS P n0 E H xs (rs ++ [.ptr (n0 + s) 0])
    | none => match (bif isCallV x.o.op then none else xPure P (envS x rs E) x.o.op) with
      | some v => none :: xPreS P n0 E H xs (rs ++ [v])
      | none => match x.o.op with
        | .load t a => match evE (envS x rs E) a with
          | some p => ldS (envS x rs E) x.o :: xPreS P n0 E H xs (rs ++ [(match xLoad P H t p with | some w => w | none => .tuple [])])
          | none => none :: xPreS P n0 E H xs (rs ++ [.tuple []])
        | _ => none :: xPreS P n0 E H xs (rs ++ [.tuple []])
def xmFold (xs : List OpS) (e : Nat) : Nat → List (Option Nat) → Nat → Nat
  | _, [], m => m
  | l, none :: ls, m => xmFold xs e (l + 1) ls m
  | l, some k :: ls, m => xmFold xs e (l + 1) ls (bif ordB xs e l then m else m ||| (1 <<< k))
def xmOf (xs : List OpS) (lds : List (Option Nat)) : Nat → List OpS → List Nat
  | _, [] => []
  | e, x :: ys => (bif isCallV x.o.op then xmFold xs e 0 lds 0 else 0) :: xmOf xs lds (e + 1) ys
def withResF : List OpS → List DR → Env → Env
  | x :: xs, d :: ds, E => withResF xs ds (match x.o.dst with | some t => (t, d.v) :: E | none => E)
  | _, _, E => E
def xRegion (P : Program) (call : CallF) (ops : Array Oper) (n : Nat) (E : Env) (D : Dfs) (H : List AObj) : Option XR :=
  match regS ops with
  | some xs => match force (bif Nat.beq (slCount ops.toList) 0 then H else H ++ List.replicate (slCount ops.toList) .dead), (bif xs.any (fun x => isCallV x.o.op) then forceNs (xmOf xs (xPreS P H.length E H xs []) 0 xs) else some []) with
    | some H0, some xms => match xSL P call n H.length (slCount ops.toList) E xs xms [] H0 with
      | some ds => bif ordS xs ds H.length (slCount ops.toList) then some ⟨.normal, withResF xs ds E, D, (H0 :: ds.map DR.H).getD ops.size [], lowOf ds⟩ else none
      | none => none
    | _, _ => none
  | none => none

/-! ### What is so -/
def fillL (c : Nat → Option AObj) : Nat → List AObj → List AObj
  | _, [] => []
  | i, o :: os => (c i).getD o :: fillL c (i + 1) os
theorem fillL_get (c : Nat → Option AObj) : ∀ (i : Nat) (H : List AObj) (r : Nat), (fillL c i H)[r]? = (H[r]?).map fun o => (c (i + r)).getD o
  | _, [], r => by simp [fillL]
  | i, o :: H, 0 => by simp [fillL]
  | i, o :: H, r + 1 => by
    simp only [fillL, List.getElem?_cons_succ, fillL_get c (i + 1) H r]
    rw [show i + 1 + r = i + (r + 1) by omega]
theorem fillL_length (c : Nat → Option AObj) : ∀ (i : Nat) (H : List AObj), (fillL c i H).length = H.length
  | _, [] => rfl
  | i, o :: H => by simp [fillL, fillL_length c (i + 1) H]
theorem RO_new_of {P : Program} {ops : Array Oper} {i q : Nat} {o : Oper} {E : Env} {v : AV} {ob : AObj} {s' : ASt} (ho : ops[i]? = some o) (hg : o.guard = none) (hn : xNew P E q o.op = some (v, ob)) (hE : Ext E s') (hd : dstOK o.dst s'.n = true) {G : Gh} {W : World} {a : Act} (ra : RA G s' a) (r : R G s'.H W) (hdead : s'.H[q]? = some .dead) (hp : G.place q = none) (hgn : ∀ m, G.gen q m = none) (hf : ¬ G.fixed q) :
    wpOp P ops (fun _ _ _ => False) i (fun a' W' => ∃ G', RA G' (ASt.put { s' with H := s'.H.set q ob } (dstOf ops i) v) a' ∧ R G' (s'.H.set q ob) W' ∧ G.le G' ∧ ∀ z, z ≠ q → G'.place z = G.place z ∧ ∀ m, G'.gen z m = G.gen z m) a W := by
  have key : ∀ (ob' : Obj) (x : Value), (execOp a.eval o).run P W = .ok (.value x) (W.alloc ob') → RO (G.withBlock q W.heap.size) (W.alloc ob') q ob → Rv (G.withBlock q W.heap.size) v x →
      wpOp P ops (fun _ _ _ => False) i (fun a' W' => ∃ G', RA G' (ASt.put { s' with H := s'.H.set q ob } (dstOf ops i) v) a' ∧ R G' (s'.H.set q ob) W' ∧ G.le G' ∧ ∀ z, z ≠ q → G'.place z = G.place z ∧ ∀ m, G'.gen z m = G.gen z m) a W := by
    intro ob' x hrun hro hv
    obtain ⟨r', hle⟩ := r.new_at (R.lt_of hdead) hp hgn hf hro
    unfold wpOp
    rw [ho]
    simp only
    rw [if_pos (by simp [Region.wanted, hg])]
    left
    unfold Oper.wp
    rw [hrun, Oper.upon_value]
    have hdst : dstOf ops i = o.dst := by simp [dstOf, ho]
    rw [hdst]
    have ra' : RA (G.withBlock q W.heap.size) { s' with H := s'.H.set q ob } a := ⟨ra.size, fun t v hv => (ra.env t v hv).mono hle, ra.defs.mono hle⟩
    refine ⟨_, ra'.put hd hv, r', hle, fun z hz => ⟨?_, fun _ => rfl⟩⟩
    simp only [Gh.withBlock]
    rw [if_neg hz]
  unfold xNew at hn
  split at hn
  · rename_i t hop
    split at hn
    · rename_i cs hz
      simp only [Option.some.injEq, Prod.mk.injEq] at hn
      obtain ⟨rfl, rfl⟩ := hn
      obtain ⟨z, hz1, hz2, _⟩ := zeroC_run hz
      refine key (.cells z.cells t) (.pointer (some ⟨W.heap.size, 0, none⟩)) ?_ (RO_new_cells r hp hf (hz2 G) t) (.ptr (i := 0) (o := 0) place_withBlock)
      unfold execOp
      simp only [hop]
      simp [Instr.alloc, hz1, newVar, newRow]
    · simp at hn
  · rename_i t x hop
    split at hn
    · rename_i w hx
      simp only [Option.some.injEq, Prod.mk.injEq] at hn
      obtain ⟨rfl, rfl⟩ := hn
      refine key (.cells (a.eval x).cells t) (.pointer (some ⟨W.heap.size, 0, none⟩)) ?_ (RO_new_cells r hp hf (ev_eval ra (evE_ev hE hx)).cellsL t) (.ptr (i := 0) (o := 0) place_withBlock)
      unfold execOp
      simp only [hop]
      simp [Instr.box, newVar, newRow]
    · simp at hn
  · rename_i t hop
    simp only [Option.some.injEq, Prod.mk.injEq] at hn
    obtain ⟨rfl, rfl⟩ := hn
    refine key (.map #[] 0) (.map (some W.heap.size)) ?_ RO_new_map (.mapv place_withBlock)
    unfold execOp
    simp only [hop]
    simp [Instr.makeMap]
  · simp at hn

structure StepS (P : Program) (call : CallF) (n n0 m : Nat) (x : OpS) (E : Env) (rs : List AV) (H : List AObj) (d : DR) : Prop where
  new : ∀ s, x.sl = some s → ∃ ob, dstOK x.o.dst n = true ∧ xNew P (envS x rs E) (n0 + s) x.o.op = some (d.v, ob) ∧ d.H = H.set (n0 + s) ob ∧ d.k = .pure ∧ d.ob = some ob
  old : x.sl = none → d.ob = none ∧ xDraw1F P call n (envS x rs E) (hideL (hidX n0 m d.xm x.hid) 0 H) x.o x.gd = some (d.v, d.he, d.k, d.low) ∧ d.H = (if d.k = .eff then showL (hidX n0 m d.xm x.hid) 0 H d.he else H) ∧ (∀ q, d.rd = some q → d.k = .quiet ∧ ldS (envS x rs E) x.o = some q)
theorem xS1b_ok {P : Program} {call : CallF} {n n0 m : Nat} {x : OpS} {xm : Nat} {E : Env} {rs : List AV} {H : List AObj} {d : DR} (h : xS1b P call n n0 m x xm E rs H = some d) : d.ob = none ∧ xDraw1F P call n (envS x rs E) (hideL (hidX n0 m d.xm x.hid) 0 H) x.o x.gd = some (d.v, d.he, d.k, d.low) ∧ d.H = (if d.k = .eff then showL (hidX n0 m d.xm x.hid) 0 H d.he else H) ∧ (∀ q, d.rd = some q → d.k = .quiet ∧ ldS (envS x rs E) x.o = some q) := by
    unfold xS1b at h
    split at h
    · rename_i Hh hHh
      have hHh : hideL (hidX n0 m xm x.hid) 0 H = Hh := by
        rw [← hideF_eq]
        cases hb : isCallV x.o.op with
        | true => rw [hb] at hHh; exact force_eq hHh
        | false => rw [hb] at hHh; simpa using hHh
      split at h
      · rename_i v Hh' k low hx
        rw [← hHh] at hx
        split at h
        · split at h
          · rename_i H' hH
            simp only [Option.some.injEq] at h; subst h
            exact ⟨rfl, hx, by rw [if_pos rfl, ← showF_eq]; exact (force_eq hH).symm, fun q h => by cases h⟩
          · simp at h
        · simp only [Option.some.injEq] at h; subst h
          exact ⟨rfl, hx, by rw [if_neg (by simp)], fun q h => ⟨rfl, h⟩⟩
        · simp only [Option.some.injEq] at h; subst h
          exact ⟨rfl, hx, by rw [if_neg (by simp)], fun q h => by cases h⟩
      · simp at h
    · simp at h
theorem xS1_ok {P : Program} {call : CallF} {n n0 m : Nat} {x : OpS} {xm : Nat} {E : Env} {rs : List AV} {H : List AObj} {d : DR} (h : xS1 P call n n0 m x xm E rs H = some d) : StepS P call n n0 m x E rs H d := by
  unfold xS1 at h
  split at h
  · rename_i s hs
    refine ⟨fun s' hs' => ?_, fun h' => by rw [hs] at h'; cases h'⟩
    rw [hs] at hs'; cases hs'
    obtain ⟨h1, h⟩ := bif_some h
    split at h
    · rename_i v ob hn
      split at h
      · rename_i H' hH
        simp only [Option.some.injEq] at h; subst h
        exact ⟨ob, h1, hn, (force_eq hH).symm, rfl, rfl⟩
      · simp at h
    · simp at h
  · rename_i hs
    refine ⟨fun s' hs' => (by rw [hs] at hs'; cases hs'), fun _ => ?_⟩
    split at h
    · rename_i d' hd
      simp only [Option.some.injEq] at h; subst h
      exact xS1b_ok hd
    · cases hb : Nat.beq xm 0 with
      | true => rw [hb] at h; simp at h
      | false => rw [hb] at h; exact xS1b_ok h
theorem xSL_ok {P : Program} {call : CallF} {n n0 m : Nat} {E : Env} : ∀ (xs : List OpS) (xms : List Nat) (rs : List AV) (H : List AObj) (ds : List DR), xSL P call n n0 m E xs xms rs H = some ds →
    ds.length = xs.length ∧ ∀ j x, xs[j]? = some x → StepS P call n n0 m x E (rs ++ (ds.map DR.v).take j) ((H :: ds.map DR.H).getD j []) (ds.getD j dr0)
  | [], xms, rs, H, ds, h => by
    simp only [xSL, Option.some.injEq] at h; subst h
    exact ⟨rfl, fun j x hx => by simp at hx⟩
  | x :: xs, xms, rs, H, ds, h => by
    simp only [xSL] at h
    split at h
    · rename_i d h1
      split at h
      · rename_i ds' h2
        simp only [Option.some.injEq] at h; subst h
        obtain ⟨l1, hall⟩ := xSL_ok xs _ _ _ _ h2
        refine ⟨by simp [l1], fun j y hy => ?_⟩
        cases j with
        | zero =>
          simp only [List.getElem?_cons_zero, Option.some.injEq] at hy; subst hy
          have := xS1_ok h1
          simpa using this
        | succ j =>
          have := hall j y (by simpa using hy)
          simpa using this
      · simp at h
    · simp at h
theorem getD_map {α β : Type} (f : α → β) (l : List α) (i : Nat) (a : α) : (l.map f).getD i (f a) = f (l.getD i a) := by
  simp only [List.getD_eq_getElem?_getD, List.getElem?_map]; cases l[i]? <;> rfl
theorem lowOf_le : ∀ {ds : List DR} {j : Nat}, j < ds.length → lowOf ds ≤ (ds.getD j dr0).low
  | [], j, h => by simp at h
  | d :: ds, 0, _ => (minN_le _ _).1
  | d :: ds, j + 1, h => by
    have := lowOf_le (ds := ds) (j := j) (by simpa using h)
    have h2 := (minN_le d.low (lowOf ds)).2
    simp only [lowOf, List.getD_cons_succ]
    omega
theorem withResF_eq {ops : Array Oper} {res : Nat → AV} : ∀ (xs : List OpS) (ds : List DR) (i : Nat) (E : Env), xs.length = ds.length → (∀ j x, xs[j]? = some x → dstOf ops (i + j) = x.o.dst) → (∀ j, j < ds.length → res (i + j) = (ds.getD j dr0).v) → withResF xs ds E = withRes ops res (List.range' i xs.length) E
  | [], [], i, E, _, _, _ => rfl
  | x :: xs, d :: ds, i, E, hl, hd, hr => by
    have h0 := hd 0 x rfl
    have hr0 := hr 0 (by simp)
    rw [Nat.add_zero] at h0 hr0
    simp only [withResF, List.length_cons, List.range'_succ, withRes, h0]
    have ih := fun E => withResF_eq (ops := ops) (res := res) xs ds (i + 1) E (by simpa using hl) (fun j y hy => by
      have := hd (j + 1) y (by simpa using hy)
      rw [← this]; congr 1; omega) (fun j hj => by
      have := hr (j + 1) (by simpa using hj)
      rw [show i + 1 + j = i + (j + 1) by omega, this]; simp)
    have hv : d.v = res i := by rw [hr0]; simp
    rw [ih, hv]
    cases x.o.dst <;> rfl
  | [], _ :: _, _, _, hl, _, _ => by simp at hl
  | _ :: _, [], _, _, hl, _, _ => by simp at hl

/-- What is asked of one operation's run. -/
structure StepP (P : Program) (ops : Array Oper) (n n0 m i : Nat) (x : OpS) (E : Env) (rs : List AV) (H : List AObj) (d : DR) : Prop where
  new : ∀ s, x.sl = some s → ∃ ob, dstOK x.o.dst n = true ∧ xNew P (envS x rs E) (n0 + s) x.o.op = some (d.v, ob) ∧ d.H = H.set (n0 + s) ob ∧ d.k = .pure ∧ d.ob = some ob
  same : x.sl = none → Same d.low (hideL (hidX n0 m d.xm x.hid) 0 H) d.he
  heap : x.sl = none → d.H = if d.k = .eff then showL (hidX n0 m d.xm x.hid) 0 H d.he else H
  cert : x.sl = none → ∀ s', Ext (envS x rs E) s' → s'.n = n → (d.k ≠ .pure → s'.H = hideL (hidX n0 m d.xm x.hid) 0 H) → ∀ N Q, N (ASt.put { s' with H := if d.k = .eff then d.he else s'.H } (dstOf ops i) d.v) → AOp1 P ops i N Q s'
  rdk : ∀ q, x.sl = none → d.rd = some q → d.k = .quiet
  rd : ∀ q, x.sl = none → d.rd = some q → ∀ s', Ext (envS x rs E) s' → s'.n = n → s'.H[q]? = (hideL (hidX n0 m d.xm x.hid) 0 H)[q]? → ∀ N Q, N (ASt.put s' (dstOf ops i) d.v) → AOp1 P ops i N Q s'
theorem StepS.stepP {P : Program} {call : CallF} (hc : CallHyp P call) {ops : Array Oper} {n n0 m i s : Nat} {x : OpS} {E : Env} {rs : List AV} {H : List AObj} {d : DR} (hok : OpOK ops i s x) (h : StepS P call n n0 m x E rs H d) : StepP P ops n n0 m i x E rs H d where
  new := h.new
  same := fun hs => (xDraw1F_ok hc hok.o hok.gd (h.old hs).2.1).1
  heap := fun hs => (h.old hs).2.2.1
  cert := fun hs => (xDraw1F_ok hc hok.o hok.gd (h.old hs).2.1).2.2
  rdk := fun q hs hq => ((h.old hs).2.2.2 q hq).1
  rd := fun q hs hq => by
    obtain ⟨_, hx1, _, hrd⟩ := h.old hs
    obtain ⟨h1, h2⟩ := hrd q hq
    rw [h1] at hx1
    exact xDraw1F_load hok.o hok.gd hx1 h2

theorem region_core {P : Program} (hmo : P.follows .mixedOrders = true) {id : Nat} {ops : Array Oper} {n : Nat} {E : Env} {D : Dfs} {H H0 : List AObj} {xs : List OpS} {ds : List DR} (hreg : RegOK ops xs) (hH0 : H0 = H ++ List.replicate (slCount ops.toList) .dead) (hlen : ds.length = xs.length)
    (hall : ∀ j x, xs[j]? = some x → StepP P ops n H.length (slCount ops.toList) j x E ((ds.map DR.v).take j) ((H0 :: ds.map DR.H).getD j []) (ds.getD j dr0)) (hord : ordS xs ds H.length (slCount ops.toList) = true) :
    Same (lowOf ds) H ((H0 :: ds.map DR.H).getD ops.size []) ∧ ACode P (.region id ops true) (QX ⟨.normal, withResF xs ds E, D, (H0 :: ds.map DR.H).getD ops.size [], lowOf ds⟩ n) ⟨E, D, n, H⟩ := by
  have hlen : ds.length = ops.size := hlen.trans hreg.len
  have hxs : ∀ i, i < ops.size → ∃ x, xs[i]? = some x := fun i hi => ⟨_, List.getElem?_eq_getElem (show i < xs.length by rw [hreg.len]; exact hi)⟩
  let m := slCount ops.toList
  let HS : Nat → List AObj := fun j => (H0 :: ds.map DR.H).getD j []
  have hHS : ∀ j, j < ops.size → HS (j + 1) = (ds.getD j dr0).H := fun j _ => by
    show (H0 :: ds.map DR.H).getD (j + 1) [] = _
    rw [List.getD_cons_succ]
    exact getD_map DR.H ds j dr0
  have hHS0 : HS 0 = H ++ List.replicate (slCount ops.toList) .dead := hH0
  have hst : ∀ j x, xs[j]? = some x → StepP P ops n H.length m j x E ((ds.map DR.v).take j) (HS j) (ds.getD j dr0) := hall
  let kd0 : Nat → Kd := fun i => (ds.getD i dr0).k
  let sl : Nat → Option Nat := fun i => ((slR 0 ops.toList).getD i none).map (H.length + ·)
  have hslx : ∀ i x, xs[i]? = some x → sl i = x.sl.map (H.length + ·) := fun i x hx => by
    obtain ⟨s, _, h2⟩ := hreg.op i x hx
    show ((slR 0 ops.toList).getD i none).map (H.length + ·) = _
    rw [h2]
  have sl_base : ∀ {i q}, sl i = some q → i < ops.size ∧ H.length ≤ q ∧ q < H.length + m ∧ ∃ o, ops[i]? = some o ∧ newO o = true := by
    intro i q h
    obtain ⟨r, hr, e⟩ := Option.map_eq_some_iff.1 h
    obtain ⟨h1, h2, h3, o, h4, h5⟩ := slR_base hr
    have h3' : r < m := by simpa using h3
    exact ⟨by simpa using h1, by omega, by omega, o, by rwa [← Array.getElem?_toList], h5⟩
  have sl_inj : ∀ {i j q}, sl i = some q → sl j = some q → i = j := by
    intro i j q h h'
    obtain ⟨r, hr, e⟩ := Option.map_eq_some_iff.1 h
    obtain ⟨r', hr', e'⟩ := Option.map_eq_some_iff.1 h'
    have : r = r' := by omega
    subst this
    exact slR_inj hr hr'
  let D' : Nat → Nat → Bool := fun i q => hidAt xs ds H.length m i q
  have hD' : ∀ i x, xs[i]? = some x → D' i = hidX H.length m (ds.getD i dr0).xm x.hid := fun i x hx => by
    funext q
    show hidAt xs ds H.length m i q = _
    unfold hidAt
    rw [hx]
  -- how long the heaps are; the old objects
  have hlen1 : ∀ j, j < ops.size → (HS j).length ≤ (HS (j + 1)).length := by
    intro j hj
    obtain ⟨x, hx⟩ := hxs j hj
    obtain ⟨sx, hok, _⟩ := hreg.op j x hx
    rw [hHS j hj]
    cases hs : x.sl with
    | some q =>
      obtain ⟨ob, _, _, h1, _⟩ := (hst j x hx).new q hs
      rw [h1]; simp
    | none =>
      have h1 := (hst j x hx).heap hs
      rw [h1]
      split
      · rw [showL_length]
        have := ((hst j x hx).same hs).1
        rwa [hideL_length] at this
      · exact Nat.le_refl _
  have hbase : ∀ j, j ≤ ops.size → H.length + m ≤ (HS j).length := by
    intro j
    induction j with
    | zero => intro _; rw [hHS0]; simp [m]
    | succ j ih => intro hj; exact Nat.le_trans (ih (by omega)) (hlen1 j (by omega))
  have hsame0 : ∀ j, j < ops.size → ∀ q, q < (ds.getD j dr0).low → q < H.length → (HS (j + 1))[q]? = (HS j)[q]? := by
    intro j hj z hz1 hz2
    obtain ⟨x, hx⟩ := hxs j hj
    obtain ⟨sx, hok, _⟩ := hreg.op j x hx
    rw [hHS j hj]
    cases hs : x.sl with
    | some q =>
      obtain ⟨ob, _, _, h1, _⟩ := (hst j x hx).new q hs
      rw [h1]
      exact List.getElem?_set_ne (by omega)
    | none =>
      have h1 := (hst j x hx).heap hs
      rw [h1]
      split
      · have hzl : z < (HS j).length := by have := hbase j (by omega); omega
        obtain ⟨hl2, hsm⟩ := (hst j x hx).same hs
        rw [hideL_length] at hl2
        cases hnz : hidX H.length m (ds.getD j dr0).xm x.hid z with
        | false =>
          have := hsm z hz1 (by rwa [hideL_length])
          rw [showL_get, Nat.zero_add, this, hideL_get, Nat.zero_add, List.getElem?_eq_getElem hzl]
          simp only [Option.map_some, hnz, cond_false]
        | true =>
          rw [showL_get, Nat.zero_add, List.getElem?_eq_getElem (show z < (ds.getD j dr0).he.length by omega), List.getElem?_eq_getElem hzl]
          simp only [Option.map_some, hnz, cond_true]
      · rfl
  have hsame1 : ∀ j, j < ops.size → ∀ q, q < lowOf ds → q < H.length → (HS (j + 1))[q]? = (HS j)[q]? := fun j hj q hq hl => hsame0 j hj q (Nat.lt_of_lt_of_le hq (lowOf_le (by omega))) hl
  have hsameAll : ∀ j, j ≤ ops.size → ∀ q, q < lowOf ds → q < H.length → (HS j)[q]? = H[q]? := by
    intro j
    induction j with
    | zero => intro _ q _ hq; rw [hHS0]; exact List.getElem?_append_left hq
    | succ j ih => intro hj q h1 h2; rw [hsame1 j (by omega) q h1 h2]; exact ih (by omega) q h1 h2
  -- the heaps with all new objects in place
  classical
  let cont : Nat → Nat → Option AObj := fun j q => if h : ∃ a, j ≤ a ∧ sl a = some q then (ds.getD h.choose dr0).ob else none
  have cont_some : ∀ {j q a}, j ≤ a → sl a = some q → cont j q = (ds.getD a dr0).ob := by
    intro j q a h1 h2
    have hex : ∃ a, j ≤ a ∧ sl a = some q := ⟨a, h1, h2⟩
    have : hex.choose = a := sl_inj hex.choose_spec.2 h2
    show (if h : ∃ a, j ≤ a ∧ sl a = some q then (ds.getD h.choose dr0).ob else none) = _
    rw [dif_pos hex, this]
  have cont_none : ∀ {j q}, (∀ a, j ≤ a → sl a ≠ some q) → cont j q = none := by
    intro j q h
    show (if h : ∃ a, j ≤ a ∧ sl a = some q then (ds.getD h.choose dr0).ob else none) = _
    rw [dif_neg (fun ⟨a, h1, h2⟩ => h a h1 h2)]
  have cont_step : ∀ {j q}, sl j ≠ some q → cont (j + 1) q = cont j q := by
    intro j q hj
    by_cases h : ∃ a, j ≤ a ∧ sl a = some q
    · obtain ⟨a, h1, h2⟩ := h
      have : a ≠ j := by rintro rfl; exact hj h2
      rw [cont_some h1 h2, cont_some (show j + 1 ≤ a by omega) h2]
    · rw [cont_none fun a h1 h2 => h ⟨a, h1, h2⟩, cont_none fun a h1 h2 => h ⟨a, by omega, h2⟩]
  have cont_old : ∀ {j q}, q < H.length → cont j q = none := fun {j q} hq => cont_none fun a _ h2 => by
    have := (sl_base h2).2.1; omega
  have anc_lt : ∀ {e i}, Anc ops e i → e < i := by
    intro e i h
    induction h with
    | one h => exact hreg.back _ _ h
    | step h _ ih => have := hreg.back _ _ h; omega
  have hvis : ∀ i q, D' i q = false → ∀ a, i < ops.size → sl a = some q → Anc ops a i := by
    intro i q h a hi ha
    obtain ⟨x, hx⟩ := hxs i hi
    obtain ⟨sx, hok, _⟩ := hreg.op i x hx
    rw [hD' i x hx] at h
    unfold hidX at h
    rw [Bool.or_eq_false_iff] at h
    obtain ⟨_, h2, h3, _⟩ := sl_base ha
    have e1 : Nat.ble H.length q = true := Nat.ble_eq_true_of_le h2
    have e2 : Nat.blt q (H.length + m) = true := Nat.ble_eq_true_of_le h3
    rw [e1, e2] at h
    obtain ⟨r, hr, e⟩ := Option.map_eq_some_iff.1 ha
    have hb := hidMask_bit (anc := x.anc) ops.toList 0 0 a r hr
    rw [← hok.hid, Nat.zero_add] at hb
    have hqr : q - H.length = r := by omega
    have h1 := h.1
    simp only [Bool.true_and] at h1
    rw [hqr, hb] at h1
    exact hok.anc a (by simpa using h1)
  have cont_lt : ∀ {i q}, cont i q ≠ none → q < H.length + m := by
    intro i q h
    by_cases hx : ∃ a, i ≤ a ∧ sl a = some q
    · obtain ⟨a, _, h2⟩ := hx
      exact (sl_base h2).2.2.1
    · exact absurd (cont_none fun a h1 h2 => hx ⟨a, h1, h2⟩) h
  have cont_hid : ∀ {i q}, i < ops.size → cont i q ≠ none → D' i q = true := by
    intro i q hi h
    cases hx : D' i q with
    | true => rfl
    | false =>
      refine absurd (cont_none fun a h1 h2 => ?_) h
      have := anc_lt (hvis i q hx a hi h2); omega
  let HH : Nat → List AObj := fun j => fillL (cont j) 0 (HS j)
  let HE : Nat → List AObj := fun j => (ds.getD j dr0).he
  have hhide : ∀ i, i < ops.size → hideL (D' i) 0 (HH i) = hideL (D' i) 0 (HS i) := by
    intro i hi
    apply List.ext_getElem?
    intro q
    rw [hideL_get, hideL_get, fillL_get, Nat.zero_add]
    cases hx : D' i q with
    | true => cases (HS i)[q]? <;> simp
    | false =>
      have : cont i q = none := by
        cases hy : cont i q with
        | none => rfl
        | some o => rw [cont_hid hi (by rw [hy]; simp)] at hx; cases hx
      rw [this]
      cases (HS i)[q]? <;> simp
  have hsl : Slots ops kd0 ⟨E, D, n, H⟩ sl D' m HH HE := by
    refine ⟨fun i q h => ?_, fun i j q h h' => sl_inj h h', fun i q hi h a ha => hvis i q h a hi ha, fun i hi => by show _ ≤ (fillL _ _ _).length; rw [fillL_length]; exact hbase i hi, fun i hi hk => ?_, fun i hi hk => ?_⟩
    · obtain ⟨h1, h2, h3, _⟩ := sl_base h
      obtain ⟨x, hx⟩ := hxs i h1
      rw [hslx i x hx] at h
      obtain ⟨s, hs, _⟩ := Option.map_eq_some_iff.1 h
      obtain ⟨ob, _, _, _, hp, _⟩ := (hst i x hx).new s hs
      exact ⟨h1, hp, h2, h3⟩
    · have hk0 := hk
      obtain ⟨x, hx⟩ := hxs i hi
      show fillL _ _ _ = fillL _ _ _
      apply List.ext_getElem?
      intro q
      rw [fillL_get, fillL_get, Nat.zero_add, hHS i hi]
      cases hs : x.sl with
      | some z =>
        have hsi : sl i = some (H.length + z) := by rw [hslx i x hx, hs]; rfl
        obtain ⟨ob, _, _, h1, _, h2⟩ := (hst i x hx).new z hs
        rw [h1]
        by_cases e : q = H.length + z
        · subst e
          have hql : H.length + z < (HS i).length := by
            have h1 := (sl_base hsi).2.2.1
            have h2 := hbase i (by omega)
            omega
          rw [List.getElem?_set_self hql, List.getElem?_eq_getElem hql, cont_some (Nat.le_refl _) hsi, h2, cont_none (fun a h3 h4 => by have := sl_inj h4 hsi; omega)]
          rfl
        · rw [List.getElem?_set_ne (Ne.symm e), cont_step (by rw [hsi]; simpa using Ne.symm e)]
      | none =>
        have hsi : sl i = none := by rw [hslx i x hx, hs]; rfl
        have h1 := (hst i x hx).heap hs
        rw [h1, if_neg hk0, cont_step (by rw [hsi]; simp)]
    · have hk0 := hk
      obtain ⟨x, hx⟩ := hxs i hi
      have hs : x.sl = none := by
        cases hs : x.sl with
        | none => rfl
        | some z =>
          obtain ⟨ob, _, _, _, hp, _⟩ := (hst i x hx).new z hs
          have hk0' : (ds.getD i dr0).k = .eff := hk0
          rw [hp] at hk0'; cases hk0'
      have hsi : sl i = none := by rw [hslx i x hx, hs]; rfl
      have h1 := (hst i x hx).heap hs
      have hk1 : (ds.getD i dr0).k = .eff := hk0
      rw [if_pos hk1, ← hD' i x hx] at h1
      show fillL (cont (i + 1)) 0 (HS (i + 1)) = showL (D' i) 0 (fillL (cont i) 0 (HS i)) _
      apply List.ext_getElem?
      intro q
      rw [fillL_get, showL_get, fillL_get, hHS i hi, h1, showL_get, Nat.zero_add, cont_step (by rw [hsi]; simp)]
      show Option.map _ (Option.map _ ((ds.getD i dr0).he)[q]?) = Option.map _ ((ds.getD i dr0).he)[q]?
      cases hc : cont i q with
      | none => cases (HS i)[q]? <;> cases ((ds.getD i dr0).he)[q]? <;> simp
      | some o' =>
        have hD := cont_hid (i := i) (q := q) hi (by rw [hc]; simp)
        have hql : q < (HS i).length := by
          have h1 := cont_lt (i := i) (q := q) (by rw [hc]; simp)
          have h2 := hbase i (by omega)
          omega
        rw [List.getElem?_eq_getElem hql]
        cases ((ds.getD i dr0).he)[q]? <;> simp [hD]
  have hmake : MakeS ops kd0 (fun i => (ds.getD i dr0).rd) (fun e q => stillB xs ds H.length m e q = true) := by
    refine ⟨hreg.back, hreg.apart, fun e i he hi hke hki hne => ?_⟩
    unfold ordS at hord
    rw [List.all_eq_true] at hord
    have h1 := hord e (List.mem_range.2 (by rw [hreg.len]; exact he))
    rw [show (ds.getD e dr0).k = .eff from hke] at h1
    simp only [List.all_eq_true] at h1
    have h2 := h1 i (List.mem_range.2 (by rw [hreg.len]; exact hi))
    have hbe : Nat.beq e i = false := by
      cases hb : Nat.beq e i with
      | false => rfl
      | true => exact absurd (Nat.eq_of_beq_eq_true hb) hne
    rw [hbe, Bool.false_or] at h2
    have hob : ordB xs e i = true → (e < i → Anc ops e i) ∧ (i < e → Anc ops i e) := by
      intro hb
      unfold ordB at hb
      constructor
      · intro hlt
        have : Nat.blt e i = true := Nat.ble_eq_true_of_le hlt
        rw [this] at hb
        simp only [cond_true] at hb
        split at hb
        · rename_i x hx
          obtain ⟨_, hok, _⟩ := hreg.op i x hx
          exact hok.anc e hb
        · cases hb
      · intro hlt
        have : Nat.blt e i = false := by
          cases hx : Nat.blt e i with
          | false => rfl
          | true => have := blt_of hx; omega
        rw [this] at hb
        simp only [cond_false] at hb
        split at hb
        · rename_i x hx
          obtain ⟨_, hok, _⟩ := hreg.op e x hx
          exact hok.anc i hb
        · cases hb
    have hki' : (ds.getD i dr0).k ≠ .pure := hki
    cases hk : (ds.getD i dr0).k with
    | pure => exact absurd hk hki'
    | eff => rw [hk] at h2; exact .inl (hob h2)
    | quiet =>
      rw [hk] at h2
      simp only [Bool.or_eq_true] at h2
      rcases h2 with h2 | h2
      · exact .inl (hob h2)
      · right
        refine ⟨hk, ?_⟩
        split at h2
        · rename_i q hq
          exact ⟨q, hq, h2⟩
        · cases h2
  have hstill : ∀ e q, e < ops.size → kd0 e = .eff → stillB xs ds H.length m e q = true → (HH (e + 1))[q]? = (HH e)[q]? := by
    intro e q he hke hb
    have hl1 := hbase e (by omega)
    have hl2 := hbase (e + 1) (by omega)
    unfold stillB at hb
    rw [Bool.or_eq_true, Bool.and_eq_true, Bool.and_eq_true] at hb
    rcases hb with ⟨h1, h2⟩ | ⟨h1, h2⟩
    · have h1 := blt_of h1
      have h2 : D' e q = true := h2
      have e1 : HH (e + 1) = showL (D' e) 0 (HH e) (HE e) := hsl.eff e he hke
      have hle : (HH (e + 1)).length = (HS (e + 1)).length := fillL_length _ _ _
      have hle' : (HH e).length = (HS e).length := fillL_length _ _ _
      rw [e1, showL_length] at hle
      rw [e1, showL_get, List.getElem?_eq_getElem (show q < (HE e).length by omega), List.getElem?_eq_getElem (show q < (HH e).length by omega)]
      simp [h2]
    · have h1 := blt_of h1
      have h2 := blt_of h2
      show (fillL (cont (e + 1)) 0 (HS (e + 1)))[q]? = (fillL (cont e) 0 (HS e))[q]?
      rw [fillL_get, fillL_get, Nat.zero_add, cont_old h1, cont_old h1]
      have : (HS (e + 1))[q]? = (HS e)[q]? := hsame0 e he q h2 h1
      rw [this]
  have hpre : ∀ i, i < ops.size → ∀ j ∈ preds ops i, ((ds.map DR.v).take i).getD j (.tuple []) = (ds.map DR.v).getD j (.tuple []) := fun i _ j hj => by
    have hji := hreg.back i j hj
    simp only [List.getD_eq_getElem?_getD]
    rw [List.getElem?_take_of_lt hji]
  refine ⟨⟨?_, fun q h1 h2 => hsameAll ops.size (Nat.le_refl _) q h1 h2⟩, c_region_slots (s := ⟨E, D, n, H⟩) hmo (fun i => (ds.map DR.v).getD i (.tuple [])) sl (fun i => (ds.getD i dr0).rd) D' m _ hmake HH HE hsl hstill ?_ ?_ ?_ ?_⟩
  · have := hbase ops.size (Nat.le_refl _)
    show H.length ≤ (HS ops.size).length
    omega
  · apply List.ext_getElem?
    intro q
    show (hideL _ 0 (fillL (cont 0) 0 (HS 0)))[q]? = _
    rw [hideL_get, fillL_get, Nat.zero_add, hHS0]
    by_cases hq : q < H.length
    · have hu : unl ops sl (Array.replicate ops.size false) q = false := by
        cases hx : unl ops sl (Array.replicate ops.size false) q with
        | false => rfl
        | true =>
          obtain ⟨b, _, h1, _⟩ := unl_of hx
          have := (sl_base h1).2.1; omega
      rw [cont_old hq, hu, List.getElem?_append_left hq]
      simp
    · rw [List.getElem?_append_right (by omega)]
      by_cases hq2 : q - H.length < slCount ops.toList
      · rw [List.getElem?_eq_getElem (by simpa using hq2)]
        simp only [List.getElem_replicate, Option.map_some, Option.some.injEq]
        cases hc : cont 0 q with
        | none => simp
        | some o =>
          have hex : ∃ a, sl a = some q := by
            by_cases hx : ∃ a, sl a = some q
            · exact hx
            · rw [cont_none fun a _ h2 => hx ⟨a, h2⟩] at hc; cases hc
          obtain ⟨a, ha⟩ := hex
          rw [of_unl (sl_base ha).1 ha (by simp [Array.getD_eq_getD_getElem?, Array.getElem?_replicate]; split <;> simp)]
          simp
      · rw [List.getElem?_eq_none (by simp; omega)]; simp
  · intro i q o hs ho s' G W a hmid ra r hdead hp hg hf
    obtain ⟨hi, _, _, o2, ho2, hno⟩ := sl_base hs
    obtain ⟨x, hx⟩ := hxs i hi
    obtain ⟨sx, hok, _⟩ := hreg.op i x hx
    have hs2 := hs
    rw [hslx i x hx] at hs2
    obtain ⟨z, hz, rfl⟩ := Option.map_eq_some_iff.1 hs2
    obtain ⟨ob, h2, h3, _, _, h4⟩ := (hst i x hx).new z hz
    have hob : o = ob := by
      have : (fillL (cont 0) 0 (HS 0))[H.length + z]? = some o := ho
      rw [fillL_get, Nat.zero_add, cont_some (Nat.zero_le _) hs, h4] at this
      obtain ⟨o', _, he⟩ := Option.map_eq_some_iff.1 this
      simpa using he.symm
    subst hob
    have ho3 := hok.o
    rw [ho2] at ho3; cases ho3
    have hgd : x.o.guard = none := by
      unfold newO at hno
      rw [Bool.and_eq_true] at hno
      simpa using hno.2
    have hv : (ds.getD i dr0).v = (ds.map DR.v).getD i (.tuple []) := (getD_map DR.v ds i dr0).symm
    rw [hv] at h3
    exact RO_new_of hok.o hgd h3 (ext_envS hok hmid (hpre i hi)) (by rw [hmid.n]; exact h2) ra r hdead hp hg hf
  · intro i hi hs s' hmid hE hq _ N Q hN
    obtain ⟨x, hx⟩ := hxs i hi
    obtain ⟨sx, hok, _⟩ := hreg.op i x hx
    have hs2 : x.sl = none := by
      rw [hslx i x hx] at hs
      simpa using hs
    have hP := hst i x hx
    have hcert := hP.cert hs2
    have hrd := hP.rd
    rw [← hD' i x hx] at hcert
    have hv : (ds.getD i dr0).v = (ds.map DR.v).getD i (.tuple []) := (getD_map DR.v ds i dr0).symm
    rw [hv] at hcert
    have hext := ext_envS hok hmid (hpre i hi)
    have hfull : (kd0 i ≠ .pure → s'.H = hideL (D' i) 0 (HS i)) → AOp1 P ops i N Q s' := fun hh => hcert s' hext hmid.n hh N Q hN
    cases hk : kd0 i with
    | pure => exact hfull fun h => absurd hk h
    | eff => exact hfull fun _ => by rw [hE hk]; exact hhide i hi
    | quiet =>
      obtain ⟨q1, q2⟩ := hq hk
      cases hr : (ds.getD i dr0).rd with
      | none => exact hfull fun _ => by rw [q1 hr]; exact hhide i hi
      | some k =>
        rw [show kd0 i = .quiet from hk, if_neg (by simp)] at hN
        rw [← hv] at hN
        refine hrd k hs2 hr s' hext hmid.n ?_ N Q hN
        rw [q2 k hr, hhide i hi, hD' i x hx]
  · refine ⟨rfl, ?_⟩
    have : HH ops.size = HS ops.size := by
      show fillL _ _ _ = _
      apply List.ext_getElem?
      intro q
      rw [fillL_get, Nat.zero_add, cont_none (fun a h1 h2 => by have := (sl_base h2).1; omega)]
      cases (HS ops.size)[q]? <;> simp
    rw [this]
    have he := withResF_eq (ops := ops) (res := fun i => (ds.map DR.v).getD i (.tuple [])) xs ds 0 E (by rw [hreg.len, hlen]) (fun j x hx => by
      obtain ⟨_, hok, _⟩ := hreg.op j x hx
      rw [Nat.zero_add]; simp [dstOf, hok.o]) (fun j hj => by rw [Nat.zero_add]; exact getD_map DR.v ds j dr0)
    rw [he, hreg.len, List.range_eq_range']
theorem xRegion_ok {P : Program} {call : CallF} (hc : CallHyp P call) (hmo : P.follows .mixedOrders = true) {id : Nat} {ops : Array Oper} {n : Nat} {E : Env} {D : Dfs} {H : List AObj} {r : XR} (h : xRegion P call ops n E D H = some r) : Same r.low H r.H ∧ ACode P (.region id ops true) (QX r n) ⟨E, D, n, H⟩ := by
  unfold xRegion at h
  split at h
  · rename_i xs hreg
    have hreg := regS_ok hreg
    split at h
    · rename_i H0 xms hH0 hX
      have hH0 : H0 = H ++ List.replicate (slCount ops.toList) .dead := by
        rw [← force_eq hH0]
        cases hb : Nat.beq (slCount ops.toList) 0 with
        | true => rw [Nat.eq_of_beq_eq_true hb]; simp
        | false => rfl
      split at h
      · rename_i ds hL
        obtain ⟨hord, h⟩ := bif_some h
        simp only [Option.some.injEq] at h; subst h
        obtain ⟨hlen, hall⟩ := xSL_ok _ _ _ _ _ hL
        have hlen' := hlen
        obtain ⟨h1, h2⟩ := region_core (id := id) (n := n) (E := E) (D := D) hmo hreg hH0 hlen (fun j x hx => by
          obtain ⟨s, hok, _⟩ := hreg.op j x hx
          have := (hall j x hx).stepP hc hok
          rwa [List.nil_append] at this) hord
        exact ⟨h1, h2⟩
      · simp at h
    · simp at h
  · simp at h
end Go.Abs
