/- A symbolic run: drawn regions. -/
import Derived.Test.YtjmedgagpheofaaGreatDoorVB
set_option linter.unusedSectionVars false
set_option linter.unusedVariables false
set_option linter.unusedSimpArgs false
set_option linter.constructorNameAsVariable false
namespace Go.Abs
open Go.RowKit
variable [Tabs]

/-- Calls whose end is told as a value. -/
abbrev VCD := FuncId → List AV → List AObj → Option (Cd × AV × List AObj × Nat)
def VCDOK (P : Program) (CD : VCD) : Prop := ∀ f as H c v H' low, CD f as H = some (c, v, H', low) → c.holds → Same low H H' ∧ InvA P f as H fun e' H'' => e' = .ret v ∧ H'' = H'

def appLow (x : AV) : Nat := match x with
  | .lst _ (some g) => g
  | _ => inf
def vEffD (P : Program) (CD : VCD) (E : Env) (H : List AObj) : Op → Option (Cd × AV × List AObj × Nat)
  | .call { callee := .value x, args := xs, argTypes := _ } => match evE E x, evsE E xs.toList with
    | some (.func (.func f) caps), some vs => CD f (vs ++ caps) H
    | _, _ => none
  | .call { callee := .builtin .append, args := xs, argTypes := ts } => match xs.toList, ts.toList with
    | [x, y], [t, tx] => match evE E x, evE E y with
      | some a, some b => match vAppend P H t tx a b with
        | some (c, v, H') => some (some c, v, H', appLow a)
        | none => none
      | _, _ => none
    | _, _ => none
  | op => match xEff P noCall E H op with
    | some (.go v H' low) => some (none, v, H', low)
    | _ => none

theorem vAppendG_same {P : Program} {H H' : List AObj} {t tx : TypeId} {a b v : AV} {c : Prop} (h : vAppendG P H t tx a b = some (c, v, H')) : Same (appLow a) H H' := by
  unfold vAppendG at h
  split at h
  · split at h
    · replace h := bif_some h
      obtain ⟨_, h⟩ := h
      split at h
      · split at h
        · split at h
          · replace h := bif_some h
            obtain ⟨_, h⟩ := h
            split at h
            · rename_i hK
              simp only [Option.some.injEq, Prod.mk.injEq] at h
              obtain ⟨_, _, rfl⟩ := h
              rw [← force_eq hK]
              exact Same.set
            · simp at h
          · simp at h
        · split at h
          · rename_i hK
            simp only [Option.some.injEq, Prod.mk.injEq] at h
            obtain ⟨_, _, rfl⟩ := h
            rw [← force_eq hK]
            exact Same.app _ _
          · simp at h
        · simp at h
      · simp at h
    · simp at h
  · simp at h

theorem vAppend_same {P : Program} {H H' : List AObj} {t tx : TypeId} {a b v : AV} {c : Prop} (h : vAppend P H t tx a b = some (c, v, H')) : Same (appLow a) H H' := by
  unfold vAppend at h
  split at h
  · split at h
    · split at h <;> simp only [Option.some.injEq, Prod.mk.injEq, reduceCtorEq] at h
      obtain ⟨_, _, rfl⟩ := h
      exact Same.refl _
    · simp at h
  · exact vAppendG_same h

section
variable {P : Program} {Q : APost} {s : ASt} {N : ASt → Prop} {o : Oper} {E : Env}
theorem vEffD_ok {CD : VCD} (hCD : VCDOK P CD) {op : Op} {c : Cd} {v : AV} {H' : List AObj} {low : Nat} (hop : o.op = op) (h : vEffD P CD E s.H op = some (c, v, H', low)) (hc : c.holds) (hE : Ext E s) (hd : dstOK o.dst s.n = true) (hst : stOK o = true) :
    Same low s.H H' ∧ (N (ASt.put { s with H := H' } o.dst v) → AOp P o N Q s) := by
  unfold vEffD at h
  split at h
  · split at h
    · rename_i f caps vs hx hvs
      obtain ⟨h1, h2⟩ := hCD _ _ _ _ _ _ _ h hc
      exact ⟨h1, fun hN => op_call_inv hop hd (evE_ev hE hx) (evsE_evs hE hvs) (h2.mono fun e' H'' ⟨he, hH⟩ => by subst he hH; exact hN)⟩
    · simp at h
  · rename_i xs ts
    split at h
    · rename_i x y t tx hxs hts
      have e1 : xs = #[x, y] := by apply Array.ext'; simpa using hxs
      have e2 : ts = #[t, tx] := by apply Array.ext'; simpa using hts
      subst e1 e2
      split at h
      · rename_i a b hx hy
        split at h <;> simp only [Option.some.injEq, Prod.mk.injEq, reduceCtorEq] at h
        rename_i c' v' H2 ha
        obtain ⟨rfl, rfl, rfl, rfl⟩ := h
        exact ⟨vAppend_same ha, fun hN => vAppend_ok hop hd (evE_ev hE hx) (evE_ev hE hy) ha hc hN⟩
      · simp at h
    · simp at h
  · split at h <;> simp only [Option.some.injEq, Prod.mk.injEq, reduceCtorEq] at h
    rename_i v' H2 low' he
    obtain ⟨rfl, rfl, rfl, rfl⟩ := h
    exact xEff_ok (Q := Q) (N := N) noCall_ok hop he hE hd hst

/-! ### One operation -/
def vGo (P : Program) (CD : VCD) (n : Nat) (o : Oper) (E : Env) (H : List AObj) (F : AV → List AObj → Kd → Nat → Option Nat → Prop) : Prop :=
  bif dstOK o.dst n && stOK o then (match vPure P E o.op with
    | some (c, v) => Cd.and c (F v H .pure inf none)
    | none => match vEffD P CD E H o.op with
      | some (c, v, H', low) => Cd.and c (bif Nat.ble H.length low && Nat.beq H'.length H.length then F v H .quiet inf (ldS E o) else F v H' .eff low none)
      | none => False) else False

/-- What a step's value, heap and kind say. -/
structure OpC (P : Program) (n : Nat) (o : Oper) (E : Env) (H : List AObj) (v : AV) (he : List AObj) (k : Kd) (low : Nat) (rd : Option Nat) : Prop where
  same : Same low H he
  keep : k ≠ .eff → he = H
  cert : ∀ s', Ext E s' → s'.n = n → (k ≠ .pure → s'.H = H) → ∀ N Q, N (ASt.put { s' with H := if k = .eff then he else s'.H } o.dst v) → AOp P o N Q s'
  rdk : ∀ q, rd = some q → k = .quiet
  rd : ∀ q, rd = some q → ∀ s', Ext E s' → s'.n = n → s'.H[q]? = H[q]? → ∀ N Q, N (ASt.put s' o.dst v) → AOp P o N Q s'
theorem vGo_ok {CD : VCD} (hCD : VCDOK P CD) {n : Nat} {H : List AObj} {F : AV → List AObj → Kd → Nat → Option Nat → Prop} (h : vGo P CD n o E H F) : ∃ v he k low rd, F v he k low rd ∧ OpC P n o E H v he k low rd := by
  unfold vGo at h
  replace h := bif_false h
  obtain ⟨hb, h⟩ := h
  rw [Bool.and_eq_true] at hb
  obtain ⟨hd, hst⟩ := hb
  split at h
  · rename_i c v hp
    obtain ⟨hc, h⟩ := Cd.and_ok h
    refine ⟨_, _, _, _, _, h, Same.refl _, fun _ => rfl, fun s' hE hn _ N Q hN => ?_, (fun q hq => by cases hq), (fun q hq => by cases hq)⟩
    rw [if_neg (by simp)] at hN
    exact vPure_ok rfl hp hc hE (by rw [hn]; exact hd) hN
  · rename_i hp
    split at h
    · rename_i c v H' low he
      obtain ⟨hc, h⟩ := Cd.and_ok h
      have key : ∀ s' : ASt, Ext E s' → s'.n = n → s'.H = H → ∀ (N : ASt → Prop) (Q : APost), Same low H H' ∧ (N (ASt.put { s' with H := H' } o.dst v) → AOp P o N Q s') := by
        intro s' hE hn hH N Q
        have := vEffD_ok (Q := Q) (N := N) (s := s') (o := o) hCD rfl (by rw [hH]; exact he) hc hE (by rw [hn]; exact hd) hst
        rw [hH] at this
        exact this
      have hsame : Same low H H' := (key ⟨E, [], n, H⟩ (fun _ _ h => h) rfl rfl (fun _ => True) (fun _ _ => True)).1
      cases hb : (Nat.ble H.length low && Nat.beq H'.length H.length) with
      | true =>
        rw [hb] at h
        simp only [cond_true] at h
        simp only [Bool.and_eq_true] at hb
        have hl1 := Nat.le_of_ble_eq_true hb.1
        have hl2 := Nat.eq_of_beq_eq_true hb.2
        have e : H' = H := by
          apply List.ext_getElem?
          intro q
          by_cases hq : q < H.length
          · exact hsame.2 q (by omega) hq
          · rw [List.getElem?_eq_none (by omega), List.getElem?_eq_none (by omega)]
        subst e
        refine ⟨_, _, _, _, _, h, Same.refl _, fun _ => rfl, fun s' hE hn hH N Q hN => ?_, fun _ _ => rfl, fun q hq s' hE hn hH N Q hN => ?_⟩
        · have hH := hH (by simp)
          refine (key s' hE hn hH N Q).2 ?_
          rw [if_neg (by simp), hH] at hN
          exact hN
        · unfold ldS at hq
          split at hq
          · rename_i t x hop
            split at hq
            · rename_i k' i0 hx
              simp only [Option.some.injEq] at hq; subst hq
              cases hl : xLoad P H' t (.ptr k' i0) with
              | none => simp [hop, vEffD, xEff, hx, hl] at he
              | some w =>
                simp only [hop, vEffD, xEff, hx, hl, Option.some.injEq, Prod.mk.injEq] at he
                obtain ⟨_, rfl, _⟩ := he
                exact xLoad_ok hop (by rw [hn]; exact hd) (evE_ev hE hx) (by rw [xLoad_congr hH]; exact hl) hN
            · simp at hq
          · simp at hq
      | false =>
        rw [hb] at h
        simp only [cond_false] at h
        refine ⟨_, _, _, _, _, h, hsame, (fun hk => absurd rfl hk), fun s' hE hn hH N Q hN => ?_, (fun q hq => by cases hq), (fun q hq => by cases hq)⟩
        refine (key s' hE hn (hH (by simp)) N Q).2 ?_
        rw [if_pos rfl] at hN
        exact hN
    · exact h.elim
end

/-! ### A region's operations -/
def mkD (n0 m xm hid : Nat) (H : List AObj) (F : DR → Prop) (v : AV) (he : List AObj) (k : Kd) (low : Nat) (rd : Option Nat) : Prop := match k with
  | .eff => match force (showF n0 m xm hid H he) with
    | some H' => F ⟨v, H', he, .eff, none, low, none, xm⟩
    | none => False
  | .quiet => F ⟨v, H, he, .quiet, none, low, rd, xm⟩
  | .pure => F ⟨v, H, he, .pure, none, low, none, xm⟩
def setV : List DR → Nat → AV → List DR
  | [], _, _ => []
  | d :: ds, 0, v => { d with v := v } :: ds
  | d :: ds, j + 1, v => d :: setV ds j v
theorem setV_eq : ∀ {ds : List DR} {j : Nat} {v : AV}, (ds.map DR.v).getD j (.tuple []) = v → setV ds j v = ds
  | [], _, _, _ => rfl
  | d :: ds, 0, v, h => by simp only [List.map_cons, List.getD_cons_zero] at h; subst h; rfl
  | d :: ds, j + 1, v, h => by simp only [List.map_cons, List.getD_cons_succ] at h; simp only [setV, setV_eq h]
def hidH (n0 m xm : Nat) (x : OpS) (H : List AObj) : Option (List AObj) := bif isCallV x.o.op then force (hideF n0 m xm x.hid H) else some (hideF n0 m xm x.hid H)
def vSkipD (n : Nat) (x : OpS) (H Hh : List AObj) (xm : Nat) (F : DR → Prop) : Prop := bif dstOK x.o.dst n then F ⟨.tuple [], H, Hh, .pure, none, inf, none, xm⟩ else False
def vRegL (P : Program) (CD : VCD) (n n0 m : Nat) (E : Env) (F : List DR → Prop) : List OpS → List Nat → List DR → List AObj → Prop
  | [], _, ds, _ => F ds
  | x :: xs, xms, ds, H => match x.sl with
    | some s => bif dstOK x.o.dst n then (match xNew P (envS x (ds.map DR.v) E) (n0 + s) x.o.op with
      | some (v, ob) => match force (H.set (n0 + s) ob) with
        | some H' => vRegL P CD n n0 m E F xs xms.tail (ds ++ [⟨v, H', [], .pure, some ob, inf, none, 0⟩]) H'
        | none => False
      | none => False) else False
    | none => match hidH n0 m (xms.headD 0) x H with
      | none => False
      | some Hh => match x.o.guard with
        | none => vGo P CD n x.o (envS x (ds.map DR.v) E) Hh (mkD n0 m (xms.headD 0) x.hid H fun d => vRegL P CD n n0 m E F xs xms.tail (ds ++ [d]) d.H)
        | some (j, w) => match x.gd with
          | none => False
          | some t => bif Nat.blt t n then (match (ds.map DR.v).getD j (.tuple []) with
            | .bool b => cond b
                (match lookF t (envS x ((setV ds j (.bool true)).map DR.v) E) with
                  | some (.bool true) => cond w (vGo P CD n x.o (envS x ((setV ds j (.bool true)).map DR.v) E) Hh (mkD n0 m (xms.headD 0) x.hid H fun d => vRegL P CD n n0 m E F xs xms.tail (setV ds j (.bool true) ++ [d]) d.H)) (vSkipD n x H Hh (xms.headD 0) fun d => vRegL P CD n n0 m E F xs xms.tail (setV ds j (.bool true) ++ [d]) d.H)
                  | _ => False)
                (match lookF t (envS x ((setV ds j (.bool false)).map DR.v) E) with
                  | some (.bool false) => cond w (vSkipD n x H Hh (xms.headD 0) fun d => vRegL P CD n n0 m E F xs xms.tail (setV ds j (.bool false) ++ [d]) d.H) (vGo P CD n x.o (envS x ((setV ds j (.bool false)).map DR.v) E) Hh (mkD n0 m (xms.headD 0) x.hid H fun d => vRegL P CD n n0 m E F xs xms.tail (setV ds j (.bool false) ++ [d]) d.H))
                  | _ => False)
            | .tuple [] => match lookF t (envS x (ds.map DR.v) E) with
              | some (.tuple []) => vSkipD n x H Hh (xms.headD 0) fun d => vRegL P CD n n0 m E F xs xms.tail (ds ++ [d]) d.H
              | _ => False
            | _ => False) else False

section
variable {P : Program}
structure DInv (P : Program) (ops : Array Oper) (n n0 m : Nat) (E : Env) (H0 : List AObj) (dn : List OpS) (ds : List DR) (H : List AObj) : Prop where
  len : ds.length = dn.length
  heap : H = (H0 :: ds.map DR.H).getD ds.length []
  st : ∀ j x, dn[j]? = some x → StepP P ops n n0 m j x E ((ds.map DR.v).take j) ((H0 :: ds.map DR.H).getD j []) (ds.getD j dr0)
theorem DInv.snoc {ops : Array Oper} {n n0 m : Nat} {E : Env} {H0 : List AObj} {dn : List OpS} {ds : List DR} {H : List AObj} {x : OpS} {d : DR} (h : DInv P ops n n0 m E H0 dn ds H) (hs : StepP P ops n n0 m dn.length x E (ds.map DR.v) H d) : DInv P ops n n0 m E H0 (dn ++ [x]) (ds ++ [d]) d.H := by
  refine ⟨by simp [h.len], ?_, ?_⟩
  · simp [List.getD_eq_getElem?_getD]
  · intro j y hy
    have hjl : j < dn.length + 1 := by
      rcases Nat.lt_or_ge j (dn ++ [x]).length with h | h
      · simpa using h
      · rw [List.getElem?_eq_none h] at hy; cases hy
    have hl := h.len
    by_cases hj : j < dn.length
    · rw [List.getElem?_append_left hj] at hy
      have := h.st j y hy
      have e1 : ((ds ++ [d]).map DR.v).take j = (ds.map DR.v).take j := by rw [List.map_append, List.take_append_of_le_length (by simp; omega)]
      have e2 : (H0 :: (ds ++ [d]).map DR.H).getD j [] = (H0 :: ds.map DR.H).getD j [] := by
        rw [List.map_append, ← List.cons_append, List.getD_eq_getElem?_getD, List.getElem?_append_left (by simp; omega), ← List.getD_eq_getElem?_getD]
      have e3 : (ds ++ [d]).getD j dr0 = ds.getD j dr0 := by
        rw [List.getD_eq_getElem?_getD, List.getElem?_append_left (by omega), ← List.getD_eq_getElem?_getD]
      rw [e1, e2, e3]
      exact this
    · have : j = dn.length := by omega
      subst this
      rw [List.getElem?_append_right (Nat.le_refl _), Nat.sub_self, List.getElem?_cons_zero, Option.some.injEq] at hy
      subst hy
      have e1 : ((ds ++ [d]).map DR.v).take dn.length = ds.map DR.v := by rw [List.map_append, List.take_append_of_le_length (by simp; omega), List.take_of_length_le (by simp; omega)]
      have e2 : (H0 :: (ds ++ [d]).map DR.H).getD dn.length [] = H := by
        rw [h.heap, List.map_append, ← List.cons_append, List.getD_eq_getElem?_getD, List.getElem?_append_left (by simp; omega), ← List.getD_eq_getElem?_getD, hl]
      have e3 : (ds ++ [d]).getD dn.length dr0 = d := by
        rw [List.getD_eq_getElem?_getD, ← hl]; simp
      rw [e1, e2, e3]
      exact hs

theorem stepP_of {ops : Array Oper} {n n0 m i s xm : Nat} {x : OpS} {E : Env} {rs : List AV} {H Hh : List AObj} {F : DR → Prop} (hok : OpOK ops i s x) (hsl : x.sl = none) (hHh : Hh = hideL (hidX n0 m xm x.hid) 0 H)
    {v : AV} {he : List AObj} {k : Kd} {low : Nat} {rd : Option Nat} (hF : mkD n0 m xm x.hid H F v he k low rd) (hc : OpC P n x.o (envS x rs E) Hh v he k low rd)
    (hop : ∀ s' N Q, Ext (envS x rs E) s' → s'.n = n → AOp P x.o N Q s' → AOp1 P ops i N Q s') : ∃ d, F d ∧ StepP P ops n n0 m i x E rs H d := by
  have hdst : dstOf ops i = x.o.dst := by simp [dstOf, hok.o]
  have mk : ∀ d : DR, d.v = v → d.he = he → d.k = k → d.low = low → d.rd = (if k = .quiet then rd else none) → d.xm = xm → d.H = (if k = .eff then showL (hidX n0 m xm x.hid) 0 H he else H) → StepP P ops n n0 m i x E rs H d := by
    rintro ⟨dv, dH, dhe, dk, dob, dlow, drd, dxm⟩ h1 h2 h3 h4 h5 h6 h7
    simp only at h1 h2 h3 h4 h5 h6 h7
    subst h1 h2 h3 h4 h6 hHh
    refine ⟨(fun s hs => by rw [hsl] at hs; cases hs), fun _ => hc.same, fun _ => h7, fun _ s' hE hn hH N Q hN => ?_, fun q _ hq => ?_, fun q _ hq s' hE hn hH N Q hN => ?_⟩
    · rw [hdst] at hN
      exact hop s' N Q hE hn (hc.cert s' hE hn hH N Q hN)
    · simp only at hq
      rw [h5] at hq
      split at hq
      · rename_i h; exact h
      · cases hq
    · simp only at hq
      rw [h5] at hq
      split at hq
      · rw [hdst] at hN
        exact hop s' N Q hE hn (hc.rd q hq s' hE hn hH N Q hN)
      · cases hq
  unfold mkD at hF
  split at hF
  · split at hF
    · rename_i H' hH'
      refine ⟨_, hF, mk _ rfl rfl rfl rfl (by simp) rfl ?_⟩
      simp only [if_true]
      rw [← force_eq hH', showF_eq]
    · exact hF.elim
  · exact ⟨_, hF, mk _ rfl rfl rfl rfl (by simp) rfl (by simp)⟩
  · exact ⟨_, hF, mk _ rfl rfl rfl rfl (by simp) rfl (by simp)⟩

theorem stepP_skip {ops : Array Oper} {n n0 m i s xm : Nat} {x : OpS} {E : Env} {rs : List AV} {H Hh : List AObj} {F : DR → Prop} (hok : OpOK ops i s x) (hsl : x.sl = none) (hHh : Hh = hideL (hidX n0 m xm x.hid) 0 H)
    (hF : vSkipD n x H Hh xm F) (hop : ∀ s' N Q, Ext (envS x rs E) s' → s'.n = n → dstOK x.o.dst s'.n = true → N (s'.put x.o.dst (.tuple [])) → AOp1 P ops i N Q s') : ∃ d, F d ∧ StepP P ops n n0 m i x E rs H d := by
  have hdst : dstOf ops i = x.o.dst := by simp [dstOf, hok.o]
  unfold vSkipD at hF
  obtain ⟨hb, hF⟩ := bif_false hF
  subst hHh
  refine ⟨_, hF, (fun s hs => by rw [hsl] at hs; cases hs), fun _ => Same.refl _, fun _ => by simp, fun _ s' hE hn _ N Q hN => ?_, (fun q _ hq => by cases hq), (fun q _ hq => by cases hq)⟩
  rw [hdst, if_neg (by simp)] at hN
  exact hop s' N Q hE hn (by rw [hn]; exact hb) hN

theorem hidH_eq {n0 m xm : Nat} {x : OpS} {H Hh : List AObj} (h : hidH n0 m xm x H = some Hh) : Hh = hideL (hidX n0 m xm x.hid) 0 H := by
  unfold hidH at h
  rw [← hideF_eq]
  cases hb : isCallV x.o.op with
  | true => rw [hb] at h; exact (force_eq h).symm
  | false => rw [hb] at h; simpa using h.symm

theorem vRegL_ok {CD : VCD} (hCD : VCDOK P CD) {ops : Array Oper} {all : List OpS} (hreg : RegOK ops all) {n n0 m : Nat} {E : Env} {H0 : List AObj} {F : List DR → Prop} : ∀ {xs : List OpS} {xms : List Nat} {dn : List OpS} {ds : List DR} {H : List AObj}, all = dn ++ xs → DInv P ops n n0 m E H0 dn ds H → vRegL P CD n n0 m E F xs xms ds H →
    ∃ ds', F ds' ∧ ∃ H', DInv P ops n n0 m E H0 all ds' H'
  | [], xms, dn, ds, H, hall, hinv, h => by
    rw [List.append_nil] at hall
    subst hall
    exact ⟨ds, h, H, hinv⟩
  | x :: xs, xms, dn, ds, H, hall, hinv, h => by
    have hx : all[dn.length]? = some x := by rw [hall, List.getElem?_append_right (Nat.le_refl _), Nat.sub_self]; rfl
    obtain ⟨s, hok, _⟩ := hreg.op _ x hx
    have hall' : all = (dn ++ [x]) ++ xs := by rw [hall]; simp
    have next : ∀ {d : DR}, StepP P ops n n0 m dn.length x E (ds.map DR.v) H d → vRegL P CD n n0 m E F xs xms.tail (ds ++ [d]) d.H → ∃ ds', F ds' ∧ ∃ H', DInv P ops n n0 m E H0 all ds' H' :=
      fun hs h => vRegL_ok hCD hreg hall' (hinv.snoc hs) h
    simp only [vRegL] at h
    split at h
    · rename_i z hz
      replace h := bif_false h
      obtain ⟨hb, h⟩ := h
      split at h
      · rename_i v ob hn
        split at h
        · rename_i H' hH'
          refine next ⟨fun s' hs' => ?_, (fun hs => by rw [hz] at hs; cases hs), (fun hs => by rw [hz] at hs; cases hs), (fun hs => by rw [hz] at hs; cases hs), (fun q hs => by rw [hz] at hs; cases hs), (fun q hs => by rw [hz] at hs; cases hs)⟩ h
          rw [hz] at hs'; cases hs'
          exact ⟨ob, hb, hn, (force_eq hH').symm, rfl, rfl⟩
        · exact h.elim
      · exact h.elim
    · rename_i hsl
      split at h
      · exact h.elim
      · rename_i Hh hHh
        have hHh := hidH_eq hHh
        split at h
        · rename_i hg
          obtain ⟨v, he, k, low, rd, hF, hc⟩ := vGo_ok hCD h
          obtain ⟨d, hd, hs⟩ := stepP_of hok hsl hHh hF hc (fun s' N Q _ _ ha => op1 hok.o hg ha)
          exact next hs hd
        · rename_i j w hg
          split at h
          · exact h.elim
          · rename_i t ht
            replace h := bif_false h
            obtain ⟨hb, h⟩ := h
            have hn : t < n := Nat.le_of_ble_eq_true (show Nat.ble (t + 1) n = true from hb)
            have hgd := hok.gd j w hg
            rw [ht] at hgd
            obtain ⟨oj, hj, hd⟩ := Option.bind_eq_some_iff.1 hgd.symm
            have goB : ∀ {b : Bool} {Fd : DR → Prop}, lookF t (envS x (ds.map DR.v) E) = some (.bool b) → b = w → vGo P CD n x.o (envS x (ds.map DR.v) E) Hh (mkD n0 m (xms.headD 0) x.hid H Fd) → ∃ d, Fd d ∧ StepP P ops n n0 m dn.length x E (ds.map DR.v) H d := by
              intro b Fd hl hw h
              rw [lookF_eq] at hl
              obtain ⟨v, he, k, low, rd, hF, hc⟩ := vGo_ok hCD h
              exact stepP_of hok hsl hHh hF hc (fun s' N Q hE hn' ha => op1_do hok.o hg hj hd (by rw [hn']; exact decide_eq_true hn) (hE _ _ hl) hw ha)
            have skipB : ∀ {b : Bool} {Fd : DR → Prop}, lookF t (envS x (ds.map DR.v) E) = some (.bool b) → b ≠ w → vSkipD n x H Hh (xms.headD 0) Fd → ∃ d, Fd d ∧ StepP P ops n n0 m dn.length x E (ds.map DR.v) H d := by
              intro b Fd hl hw h
              rw [lookF_eq] at hl
              exact stepP_skip hok hsl hHh h (fun s' N Q hE hn' hds hN => op1_skip hok.o hg hj hd (by rw [hn']; exact decide_eq_true hn) (hE _ _ hl) hw hds hN)
            split at h
            · rename_i b hbv
              have hset := setV_eq hbv
              cases b with
              | true =>
                simp only [cond_true] at h
                rw [hset] at h
                split at h
                · rename_i hl
                  cases w with
                  | true =>
                    obtain ⟨d, hd, hs⟩ := goB hl rfl h
                    exact next hs hd
                  | false =>
                    obtain ⟨d, hd, hs⟩ := skipB hl (by simp) (by simpa only [cond_true, cond_false] using h)
                    exact next hs hd
                · exact h.elim
              | false =>
                simp only [cond_false] at h
                rw [hset] at h
                split at h
                · rename_i hl
                  cases w with
                  | true =>
                    obtain ⟨d, hd, hs⟩ := skipB hl (by simp) (by simpa only [cond_true, cond_false] using h)
                    exact next hs hd
                  | false =>
                    obtain ⟨d, hd, hs⟩ := goB hl rfl h
                    exact next hs hd
                · exact h.elim
            · split at h
              · rename_i hl
                rw [lookF_eq] at hl
                obtain ⟨d, hd', hs⟩ := stepP_skip hok hsl hHh h (fun s' N Q hE hn' hds hN => op1_skip_u hok.o hg hj hd (hE _ _ hl) hds hN)
                exact next hs hd'
              · exact h.elim
            · exact h.elim

/-- What the loads load from, as far as can be told ahead. -/
def vPreS (P : Program) (n0 : Nat) (E : Env) (H : List AObj) : List OpS → List AV → List (Option Nat)
  | [], _ => []
  | x :: xs, rs => match x.sl with
    | some s => none :: vPreS P n0 E H xs (rs ++ [.ptr (n0 + s) 0])
    | none => match x.o.op with
      | .load t a => match evE (envS x rs E) a with
        | some p => ldS (envS x rs E) x.o :: vPreS P n0 E H xs (rs ++ [(match xLoad P H t p with | some w => w | none => .tuple [])])
        | none => none :: vPreS P n0 E H xs (rs ++ [.tuple []])
      | .fieldAddr _ _ _ => match xPure P (envS x rs E) x.o.op with
        | some v => none :: vPreS P n0 E H xs (rs ++ [v])
        | none => none :: vPreS P n0 E H xs (rs ++ [.tuple []])
      | .move a => match evE (envS x rs E) a with
        | some p => none :: vPreS P n0 E H xs (rs ++ [p])
        | none => none :: vPreS P n0 E H xs (rs ++ [.tuple []])
      | _ => none :: vPreS P n0 E H xs (rs ++ [.tuple []])
def vRegion (P : Program) (CD : VCD) (ops : Array Oper) (n : Nat) (E : Env) (D : Dfs) (H : List AObj) (K : VK) : Prop :=
  match regS ops with
  | some xs => match force (bif Nat.beq (slCount ops.toList) 0 then H else H ++ List.replicate (slCount ops.toList) .dead), (bif xs.any (fun x => isCallV x.o.op) then forceNs (xmOf xs (vPreS P H.length E H xs []) 0 xs) else some []) with
    | some H0, some xms => vRegL P CD n H.length (slCount ops.toList) E (fun ds => bif ordS xs ds H.length (slCount ops.toList) then (match force ((H0 :: ds.map DR.H).getD ops.size []) with
        | some H' => K .normal (withResF xs ds E) D H'
        | none => False) else False) xs xms [] H0
    | _, _ => False
  | none => False
theorem vRegion_ok (hmo : P.follows .mixedOrders = true) {CD : VCD} (hCD : VCDOK P CD) {id : Nat} {ops : Array Oper} {n : Nat} {E : Env} {D : Dfs} {H : List AObj} {K : VK} (h : vRegion P CD ops n E D H K) : ACode P (.region id ops true) (QK K n) ⟨E, D, n, H⟩ := by
  unfold vRegion at h
  split at h
  · rename_i xs hreg
    have hreg := regS_ok hreg
    split at h
    · rename_i H0 xms hH0 _
      have hH0 : H0 = H ++ List.replicate (slCount ops.toList) .dead := by
        rw [← force_eq hH0]
        cases hb : Nat.beq (slCount ops.toList) 0 with
        | true => rw [Nat.eq_of_beq_eq_true hb]; simp
        | false => rfl
      obtain ⟨ds, hF, H', hinv⟩ := vRegL_ok (H0 := H0) (dn := []) hCD hreg rfl ⟨rfl, rfl, fun j x hx => by simp at hx⟩ h
      obtain ⟨hord, hF⟩ := bif_false hF
      split at hF
      · rename_i H2 hH2
        have hH2 := force_eq hH2
        obtain ⟨_, h2⟩ := region_core (id := id) (n := n) (E := E) (D := D) hmo hreg hH0 hinv.len (fun j x hx => hinv.st j x hx) hord
        refine h2.mono ?_
        rintro e s ⟨rfl, rfl⟩
        exact ⟨rfl, by rw [hH2]; exact hF⟩
      · exact hF.elim
    · exact h.elim
  · exact h.elim
end
end Go.Abs
