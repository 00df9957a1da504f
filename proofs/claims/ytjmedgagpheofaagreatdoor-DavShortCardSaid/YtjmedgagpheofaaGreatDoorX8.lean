/- The abstract layer, made to run: regions. -/
import Derived.Test.YtjmedgagpheofaaGreatDoorX7
set_option linter.unusedSectionVars false
set_option linter.unusedVariables false
set_option linter.unusedSimpArgs false
set_option linter.constructorNameAsVariable false
namespace Go.Abs
open Go.RowKit
variable [Tabs]

structure CallHyp (P : Program) (call : CallF) : Prop where
  ok : CallOK P call

def xOp (P : Program) (call : CallF) (E : Env) (H : List AObj) (o : Oper) (n : Nat) : Option XO :=
  bif dstOK o.dst n && stOK o then (match xPure P E o.op with
    | some v => some (.go v H inf)
    | none => xEff P call E H o.op) else none
theorem xOp_ok {P : Program} {call : CallF} (hc : CallHyp P call) {E : Env} {s : ASt} {o : Oper} {r : XO} {N : ASt → Prop} {Q : APost} (h : xOp P call E s.H o s.n = some r) (hE : Ext E s) : r.same s.H ∧ (r.then o.dst s N Q → AOp P o N Q s) := by
  unfold xOp at h
  obtain ⟨h1, h⟩ := bif_some h
  rw [Bool.and_eq_true] at h1
  split at h
  · rename_i hp
    simp only [Option.some.injEq] at h; subst h
    exact ⟨Same.refl _, fun hN => xPure_ok rfl hp hE h1.1 hN⟩
  · exact xEff_ok hc.ok rfl h hE h1.1 h1.2

def xOpT (P : Program) (call : CallF) (E : Env) (H : List AObj) (o : Oper) (n : Nat) : Option XO :=
  match o.op with
  | .buildSlice t len parts => bif dstOK o.dst n && Nat.ble 1 len then xBuildTok P E H t len parts.toList else xOp P call E H o n
  | _ => xOp P call E H o n
theorem xOpT_ok {P : Program} {call : CallF} (hc : CallHyp P call) {E : Env} {s : ASt} {o : Oper} {r : XO} {N : ASt → Prop} {Q : APost} (h : xOpT P call E s.H o s.n = some r) (hE : Ext E s) : r.same s.H ∧ (r.then o.dst s N Q → AOp P o N Q s) := by
  unfold xOpT at h
  split at h
  · rename_i hop
    cases hb : (dstOK o.dst s.n && Nat.ble 1 _) with
    | true =>
      rw [hb] at h
      rw [Bool.and_eq_true] at hb
      exact xBuildTok_ok hE hop hb.1 h
    | false =>
      rw [hb] at h
      exact xOp_ok hc h hE
  · exact xOp_ok hc h hE

abbrev Dfs := List (FuncId × List AV)
structure XR where
  e : AExit
  E : Env
  D : Dfs
  H : List AObj
  low : Nat

def xOps (P : Program) (call : CallF) (ops : Array Oper) (n : Nat) : List Nat → Env → Dfs → List AObj → Option XR
  | [], E, D, H => some ⟨.normal, E, D, H, inf⟩
  | i :: l, E, D, H => match ops[i]? with
    | none => none
    | some o =>
      let go : Option XR := match xOpT P call E H o n with
        | some (.go v H' low) => match o.dst with
          | some d => match xOps P call ops n l ((d, v) :: E) D H' with
            | some ⟨e, E2, D2, H2, low2⟩ => some ⟨e, E2, D2, H2, minN low low2⟩
            | none => none
          | none => match xOps P call ops n l E D H' with
            | some ⟨e, E2, D2, H2, low2⟩ => some ⟨e, E2, D2, H2, minN low low2⟩
            | none => none
        | some (.dfr f as) => match o.dst with
          | some d => xOps P call ops n l ((d, .tuple []) :: E) ((f, as) :: D) H
          | none => xOps P call ops n l E ((f, as) :: D) H
        | some (.panic v H' low) => some ⟨.panic v, E, D, H', low⟩
        | none => none
      let skip : Option XR := bif dstOK o.dst n then (match o.dst with
        | some d => xOps P call ops n l ((d, .tuple []) :: E) D H
        | none => xOps P call ops n l E D H) else none
      match o.guard with
      | none => go
      | some (j, w) => match ops[j]? with
        | none => none
        | some oj => match oj.dst with
          | none => none
          | some d => match lookF d E with
            | some (.bool b) => bif Nat.blt d n then (match b, w with
              | true, true => go
              | false, false => go
              | _, _ => skip) else none
            | some (.tuple []) => skip
            | _ => none

def QX (r : XR) (n : Nat) : APost := fun e s => e = r.e ∧ s = ⟨r.E, r.D, n, r.H⟩

theorem xOps_ok {P : Program} {call : CallF} (hc : CallHyp P call) {ops : Array Oper} {n : Nat} : ∀ {l : List Nat} {E : Env} {D : Dfs} {H : List AObj} {r : XR}, xOps P call ops n l E D H = some r → Same r.low H r.H ∧ AOps P ops l (QX r n) ⟨E, D, n, H⟩
  | [], E, D, H, r, h => by
    simp only [xOps, Option.some.injEq] at h; subst h
    exact ⟨Same.refl _, o_nil ⟨rfl, rfl⟩⟩
  | i :: l, E, D, H, r, h => by
    simp only [xOps] at h
    split at h
    · simp at h
    · rename_i o ho
      have hgo : ∀ {x : Option XR}, x = some r → x = (match xOpT P call E H o n with
        | some (.go v H' low) => match o.dst with
          | some d => match xOps P call ops n l ((d, v) :: E) D H' with
            | some ⟨e, E2, D2, H2, low2⟩ => some ⟨e, E2, D2, H2, minN low low2⟩
            | none => none
          | none => match xOps P call ops n l E D H' with
            | some ⟨e, E2, D2, H2, low2⟩ => some ⟨e, E2, D2, H2, minN low low2⟩
            | none => none
        | some (.dfr f as) => match o.dst with
          | some d => xOps P call ops n l ((d, .tuple []) :: E) ((f, as) :: D) H
          | none => xOps P call ops n l E ((f, as) :: D) H
        | some (.panic v H' low) => some ⟨.panic v, E, D, H', low⟩
        | none => none) → Same r.low H r.H ∧ AOp P o (fun s' => AOps P ops l (QX r n) s') (QX r n) ⟨E, D, n, H⟩ := by
        intro x hx h
        rw [hx] at h
        have h := h.symm
        split at h
        · rename_i v H' low hop
          have hop := xOpT_ok hc (s := ⟨E, D, n, H⟩) (N := fun s' => AOps P ops l (QX r n) s') (Q := QX r n) hop (fun _ _ h => h)
          split at h
          · rename_i d hd
            split at h
            · rename_i e E2 D2 H2 low2 hr
              simp only [Option.some.injEq] at h; subst h
              obtain ⟨i1, i2⟩ := xOps_ok hc hr
              refine ⟨hop.1.trans i1, hop.2 ?_⟩
              simp only [XO.then, hd]
              exact i2
            · simp at h
          · rename_i hd
            split at h
            · rename_i e E2 D2 H2 low2 hr
              simp only [Option.some.injEq] at h; subst h
              obtain ⟨i1, i2⟩ := xOps_ok hc hr
              refine ⟨hop.1.trans i1, hop.2 ?_⟩
              simp only [XO.then, hd]
              exact i2
            · simp at h
        · rename_i f as hop
          have hop := xOpT_ok hc (s := ⟨E, D, n, H⟩) (N := fun s' => AOps P ops l (QX r n) s') (Q := QX r n) hop (fun _ _ h => h)
          split at h
          · rename_i d hd
            obtain ⟨i1, i2⟩ := xOps_ok hc h
            refine ⟨i1, hop.2 ?_⟩
            simp only [XO.then, hd]
            exact i2
          · rename_i hd
            obtain ⟨i1, i2⟩ := xOps_ok hc h
            refine ⟨i1, hop.2 ?_⟩
            simp only [XO.then, hd]
            exact i2
        · rename_i v H' low hop
          have hop := xOpT_ok hc (s := ⟨E, D, n, H⟩) (N := fun s' => AOps P ops l (QX r n) s') (Q := QX r n) hop (fun _ _ h => h)
          simp only [Option.some.injEq] at h; subst h
          exact ⟨hop.1, hop.2 ⟨rfl, rfl⟩⟩
        · simp at h
      have hskip : ∀ {x : Option XR}, x = some r → x = (bif dstOK o.dst n then (match o.dst with
        | some d => xOps P call ops n l ((d, .tuple []) :: E) D H
        | none => xOps P call ops n l E D H) else none) → Same r.low H r.H ∧ dstOK o.dst n = true ∧ AOps P ops l (QX r n) (ASt.put ⟨E, D, n, H⟩ o.dst (.tuple [])) := by
        intro x hx h
        rw [hx] at h
        obtain ⟨h1, h⟩ := bif_some h.symm
        split at h
        · rename_i d hd
          obtain ⟨i1, i2⟩ := xOps_ok hc h
          exact ⟨i1, h1, by simp only [hd]; exact i2⟩
        · rename_i hd
          obtain ⟨i1, i2⟩ := xOps_ok hc h
          exact ⟨i1, h1, by simp only [hd]; exact i2⟩
      split at h
      · rename_i hg
        obtain ⟨i1, i2⟩ := hgo h rfl
        exact ⟨i1, o_cons ho hg i2⟩
      · rename_i j w hg
        split at h
        · simp at h
        · rename_i oj hj
          split at h
          · simp at h
          · rename_i d hd
            split at h
            · rename_i b hb
              rw [lookF_eq] at hb
              obtain ⟨hn, h⟩ := bif_some h
              have hn : d < n := Nat.le_of_ble_eq_true (show Nat.ble (d + 1) n = true from hn)
              split at h
              · obtain ⟨i1, i2⟩ := hgo h rfl
                exact ⟨i1, o_do ho hg hj hd (decide_eq_true hn) hb rfl i2⟩
              · obtain ⟨i1, i2⟩ := hgo h rfl
                exact ⟨i1, o_do ho hg hj hd (decide_eq_true hn) hb rfl i2⟩
              · rename_i hne1 hne2
                obtain ⟨i1, i2, i3⟩ := hskip h rfl
                refine ⟨i1, o_skip ho hg hj hd (decide_eq_true hn) hb ?_ i2 i3⟩
                intro e; subst e
                cases b
                · exact hne2 rfl rfl
                · exact hne1 rfl rfl
            · rename_i hb
              rw [lookF_eq] at hb
              obtain ⟨i1, i2, i3⟩ := hskip h rfl
              exact ⟨i1, o_skip_u ho hg hj hd hb i2 i3⟩
            · simp at h

/-! ### Regions that draw -/
def predEnv (ops : Array Oper) (rs : List AV) : List Nat → Env → Env
  | [], E => E
  | j :: l, E => match dstOf ops j with
    | some d => (d, rs.getD j (.tuple [])) :: predEnv ops rs l E
    | none => predEnv ops rs l E
def outerEnv (ops : Array Oper) : Env → Env
  | [] => []
  | (t, v) :: E => bif ops.toList.any (fun o => match o.dst with | some d => Nat.beq d t | none => false) then outerEnv ops E else (t, v) :: outerEnv ops E

/-- One operation of such a region: its result, the heap, its kind. -/
def xDraw1 (P : Program) (call : CallF) (ops : Array Oper) (n : Nat) (outer : Env) (rs : List AV) (H : List AObj) (i : Nat) : Option (AV × List AObj × Kd × Nat) :=
  match ops[i]? with
  | none => none
  | some o =>
    let E := predEnv ops rs (preds ops i) outer
    let go : Option (AV × List AObj × Kd × Nat) := bif dstOK o.dst n && stOK o then (match xPure P E o.op with
      | some v => some (v, H, .pure, inf)
      | none => match xEff P call E H o.op with
        | some (.go v H' low) => bif Nat.ble H.length low && Nat.beq H'.length H.length then some (v, H, .quiet, inf) else some (v, H', .eff, low)
        | _ => none) else none
    match o.guard with
    | none => go
    | some (j, w) => match ops[j]? with
      | none => none
      | some oj => match oj.dst with
        | none => none
        | some d => match lookF d E with
          | some (.bool b) => bif Nat.blt d n then (match b, w with
            | true, true => go
            | false, false => go
            | _, _ => bif dstOK o.dst n then some (.tuple [], H, .pure, inf) else none) else none
          | some (.tuple []) => bif dstOK o.dst n then some (.tuple [], H, .pure, inf) else none
          | _ => none
def xDrawL (P : Program) (call : CallF) (ops : Array Oper) (n : Nat) (outer : Env) : Nat → Nat → List AV → List AObj → Option (List AV × List (List AObj) × List Kd × Nat)
  | 0, _, _, _ => some ([], [], [], inf)
  | m + 1, i, rs, H => match xDraw1 P call ops n outer rs H i with
    | some (v, H', k, low) => match xDrawL P call ops n outer m (i + 1) (rs ++ [v]) H' with
      | some (vs, hs, ks, low') => some (v :: vs, H' :: hs, k :: ks, minN low low')
      | none => none
    | none => none
/-- The object that an operation loads from. -/
def ldOf (ops : Array Oper) (E : Env) (rs : List AV) (i : Nat) : Option Nat :=
  match ops[i]? with
  | some o => match o.op with
    | .load _ x => match evE (predEnv ops rs (preds ops i) E) x with
      | some (.ptr k _) => some k
      | _ => none
    | _ => none
  | none => none
def kdOf (ops : Array Oper) (O : Env) (vs : List AV) (ks : List Kd) (low n : Nat) (i : Nat) : Kd :=
  match ks.getD i .pure with
  | .quiet => match ldOf ops O vs i with
    | some k => bif Nat.blt k low && Nat.blt k n then .pure else .quiet
    | none => .quiet
  | k => k
def xDraw (P : Program) (call : CallF) (ops : Array Oper) (n : Nat) (E : Env) (D : Dfs) (H : List AObj) : Option XR :=
  match xDrawL P call ops n (outerEnv ops E) ops.size 0 [] H with
  | some (vs, hs, ks, low) => bif makeB ops (kdOf ops (outerEnv ops E) vs ks low H.length) then
      some ⟨.normal, withRes ops (fun i => vs.getD i (.tuple [])) (List.range ops.size) E, D, (H :: hs).getD ops.size [], low⟩ else none
  | none => none

theorem look_outer {ops : Array Oper} {t : Nat} {v : AV} : ∀ {E : Env}, look t (outerEnv ops E) = some v → (∀ j, dstOf ops j ≠ some t) ∧ look t E = some v
  | [], h => by simp [outerEnv, look] at h
  | (u, w) :: E, h => by
    unfold outerEnv at h
    by_cases hc : ops.toList.any (fun o => match o.dst with | some d => Nat.beq d u | none => false) = true
    · rw [hc] at h
      simp only [cond_true] at h
      obtain ⟨h1, h2⟩ := look_outer h
      refine ⟨h1, ?_⟩
      have hne : t ≠ u := by
        rintro rfl
        obtain ⟨o, ho, he⟩ := List.any_eq_true.1 hc
        obtain ⟨j, hj⟩ := List.mem_iff_getElem?.1 ho
        split at he
        · rename_i d hd
          have := Nat.eq_of_beq_eq_true he
          subst this
          exact h1 j (by simp [dstOf, ← Array.getElem?_toList, hj, hd])
        · cases he
      simpa [look, hne] using h2
    · have hc : ops.toList.any (fun o => match o.dst with | some d => Nat.beq d u | none => false) = false := by simpa using hc
      rw [hc] at h
      simp only [cond_false, look] at h
      split at h
      · rename_i e; subst e
        refine ⟨fun j hj => ?_, by simpa [look] using h⟩
        have : ops.toList.any (fun o => match o.dst with | some d => Nat.beq d t | none => false) = true := by
          unfold dstOf at hj
          obtain ⟨o, ho, hd⟩ := Option.bind_eq_some_iff.1 hj
          refine List.any_eq_true.2 ⟨o, ?_, ?_⟩
          · rw [← Array.getElem?_toList] at ho
            exact List.mem_of_getElem? ho
          · simp [hd]
        rw [hc] at this; cases this
      · rename_i e
        obtain ⟨h1, h2⟩ := look_outer h
        exact ⟨h1, by simpa [look, e] using h2⟩

theorem look_predEnv {ops : Array Oper} {rs : List AV} {t : Nat} {v : AV} {O : Env} : ∀ {l : List Nat}, look t (predEnv ops rs l O) = some v → (∃ j ∈ l, dstOf ops j = some t ∧ rs.getD j (.tuple []) = v) ∨ look t O = some v
  | [], h => .inr h
  | j :: l, h => by
    simp only [predEnv] at h
    split at h
    · rename_i d hd
      simp only [look] at h
      split at h
      · rename_i e; subst e
        exact .inl ⟨j, by simp, hd, by simpa using h⟩
      · rcases look_predEnv h with ⟨j', hj', h1⟩ | h1
        · exact .inl ⟨j', List.mem_cons_of_mem _ hj', h1⟩
        · exact .inr h1
    · rcases look_predEnv h with ⟨j', hj', h1⟩ | h1
      · exact .inl ⟨j', List.mem_cons_of_mem _ hj', h1⟩
      · exact .inr h1

/-- In the middle of the region, what the operation's own states know. -/
theorem ext_pred {ops : Array Oper} {E : Env} {D : Dfs} {n : Nat} {H : List AObj} {rs : List AV} {res : Nat → AV} {i : Nat} {s' : ASt} (hm : Mid ops ⟨E, D, n, H⟩ s' res i) (hr : ∀ j, j ∈ preds ops i → rs.getD j (.tuple []) = res j) : Ext (predEnv ops rs (preds ops i) (outerEnv ops E)) s' := by
  intro t v h
  rcases look_predEnv h with ⟨j, hj, hd, hv⟩ | h
  · rw [← hv, hr j hj]
    exact hm.preds j t hj hd
  · obtain ⟨h1, h2⟩ := look_outer h
    exact hm.outer t v h1 h2

theorem op1_skip_u {P : Program} {ops : Array Oper} {Q : APost} {N : ASt → Prop} {s : ASt} {i j d : Nat} {o oj : Oper} {w : Bool} (ho : ops[i]? = some o) (hg : o.guard = some (j, w)) (hj : ops[j]? = some oj) (hd : oj.dst = some d)
    (hv : look d s.env = some (.tuple [])) (hdst : dstOK o.dst s.n = true) (h : N (s.put o.dst (.tuple []))) : AOp1 P ops i N Q s := by
  intro G W a ra r
  simp only [wpOp, ho]
  rw [if_neg (by simp only [Region.wanted, hg, yielded_undef ra hj hd hv]; cases w <;> decide)]
  exact ⟨_, G, h, ra.put hdst (.tuple .nil), by cases o.dst <;> exact r, .refl G⟩

/-- What one operation's run says of it. -/
theorem xDraw1_ok {P : Program} {call : CallF} (hc : CallHyp P call) {ops : Array Oper} {n : Nat} {O : Env} {rs : List AV} {H H' : List AObj} {i low : Nat} {v : AV} {k : Kd} (h : xDraw1 P call ops n O rs H i = some (v, H', k, low)) :
    Same low H H' ∧ (k ≠ .eff → H' = H) ∧ ∀ s', Ext (predEnv ops rs (preds ops i) O) s' → s'.n = n → (k ≠ .pure → s'.H = H) → ∀ N Q, N (ASt.put { s' with H := if k = .eff then H' else s'.H } (dstOf ops i) v) → AOp1 P ops i N Q s' := by
  unfold xDraw1 at h
  split at h
  · simp at h
  · rename_i o ho
    dsimp only at h
    have hdst : dstOf ops i = o.dst := by simp [dstOf, ho]
    rw [hdst]
    have hgo : ∀ {x : Option (AV × List AObj × Kd × Nat)}, x = some (v, H', k, low) → x = (bif dstOK o.dst n && stOK o then (match xPure P (predEnv ops rs (preds ops i) O) o.op with
      | some v => some (v, H, .pure, inf)
      | none => match xEff P call (predEnv ops rs (preds ops i) O) H o.op with
        | some (.go v H' low) => bif Nat.ble H.length low && Nat.beq H'.length H.length then some (v, H, .quiet, inf) else some (v, H', .eff, low)
        | _ => none) else none) → Same low H H' ∧ (k ≠ .eff → H' = H) ∧ ∀ s', Ext (predEnv ops rs (preds ops i) O) s' → s'.n = n → (k ≠ .pure → s'.H = H) → ∀ N Q, N (ASt.put { s' with H := if k = .eff then H' else s'.H } o.dst v) → AOp P o N Q s' := by
      intro x hx h
      rw [hx] at h
      obtain ⟨h1, h⟩ := bif_some h.symm
      rw [Bool.and_eq_true] at h1
      split at h
      · rename_i hp
        simp only [Option.some.injEq, Prod.mk.injEq] at h
        obtain ⟨rfl, rfl, rfl, rfl⟩ := h
        refine ⟨Same.refl _, fun _ => rfl, fun s' hE hn _ N Q hN => xPure_ok rfl hp hE (by rw [hn]; exact h1.1) ?_⟩
        rw [if_neg (by simp)] at hN
        exact hN
      · split at h
        · rename_i v' H2 low' he
          have key : ∀ s', Ext (predEnv ops rs (preds ops i) O) s' → s'.n = n → s'.H = H → ∀ (N : ASt → Prop) (Q : APost), Same low' H H2 ∧ (N (ASt.put { s' with H := H2 } o.dst v') → AOp P o N Q s') := by
            intro s' hE hn hH N Q
            have := xEff_ok (Q := Q) (N := N) (s := s') (o := o) hc.ok rfl (by rw [hH]; exact he) hE (by rw [hn]; exact h1.1) h1.2
            rw [hH] at this
            exact this
          have hsame : Same low' H H2 := (key ⟨predEnv ops rs (preds ops i) O, [], n, H⟩ (fun _ _ h => h) rfl rfl (fun _ => True) (fun _ _ => True)).1
          cases hb : (Nat.ble H.length low' && Nat.beq H2.length H.length) with
          | true =>
            rw [hb] at h
            simp only [cond_true, Option.some.injEq, Prod.mk.injEq] at h
            obtain ⟨rfl, rfl, rfl, rfl⟩ := h
            simp only [Bool.and_eq_true] at hb
            have hl1 := Nat.le_of_ble_eq_true hb.1
            have hl2 := Nat.eq_of_beq_eq_true hb.2
            have e : H2 = H := by
              apply List.ext_getElem?
              intro q
              by_cases hq : q < H.length
              · exact hsame.2 q (by omega) hq
              · rw [List.getElem?_eq_none (by omega), List.getElem?_eq_none (by omega)]
            subst e
            refine ⟨Same.refl _, fun _ => rfl, fun s' hE hn hH N Q hN => ?_⟩
            have hH := hH (by simp)
            refine (key s' hE hn hH N Q).2 ?_
            rw [if_neg (by simp), hH] at hN
            exact hN
          | false =>
            rw [hb] at h
            simp only [cond_false, Option.some.injEq, Prod.mk.injEq] at h
            obtain ⟨rfl, rfl, rfl, rfl⟩ := h
            refine ⟨hsame, by simp, fun s' hE hn hH N Q hN => ?_⟩
            refine (key s' hE hn (hH (by simp)) N Q).2 ?_
            rw [if_pos rfl] at hN
            exact hN
        · simp at h
    split at h
    · rename_i hg
      obtain ⟨i1, i2, i3⟩ := hgo h rfl
      exact ⟨i1, i2, fun s' hE hn hH N Q hN => op1 ho hg (i3 s' hE hn hH N Q hN)⟩
    · rename_i j w hg
      split at h
      · simp at h
      · rename_i oj hj
        split at h
        · simp at h
        · rename_i d hd
          split at h
          · rename_i b hb
            rw [lookF_eq] at hb
            obtain ⟨hn, h⟩ := bif_some h
            have hn : d < n := Nat.le_of_ble_eq_true (show Nat.ble (d + 1) n = true from hn)
            split at h
            · obtain ⟨i1, i2, i3⟩ := hgo h rfl
              exact ⟨i1, i2, fun s' hE hn' hH N Q hN => op1_do ho hg hj hd (by rw [hn']; exact decide_eq_true hn) (hE _ _ hb) rfl (i3 s' hE hn' hH N Q hN)⟩
            · obtain ⟨i1, i2, i3⟩ := hgo h rfl
              exact ⟨i1, i2, fun s' hE hn' hH N Q hN => op1_do ho hg hj hd (by rw [hn']; exact decide_eq_true hn) (hE _ _ hb) rfl (i3 s' hE hn' hH N Q hN)⟩
            · rename_i hne1 hne2
              obtain ⟨h1, h⟩ := bif_some h
              simp only [Option.some.injEq, Prod.mk.injEq] at h
              obtain ⟨rfl, rfl, rfl, rfl⟩ := h
              refine ⟨Same.refl _, fun _ => rfl, fun s' hE hn' hH N Q hN => op1_skip ho hg hj hd (by rw [hn']; exact decide_eq_true hn) (hE _ _ hb) ?_ (by rw [hn']; exact h1) ?_⟩
              · intro e; subst e
                cases b
                · exact hne2 rfl rfl
                · exact hne1 rfl rfl
              · rw [if_neg (by simp)] at hN; exact hN
          · rename_i hb
            rw [lookF_eq] at hb
            obtain ⟨h1, h⟩ := bif_some h
            simp only [Option.some.injEq, Prod.mk.injEq] at h
            obtain ⟨rfl, rfl, rfl, rfl⟩ := h
            refine ⟨Same.refl _, fun _ => rfl, fun s' hE hn' hH N Q hN => op1_skip_u ho hg hj hd (hE _ _ hb) (by rw [hn']; exact h1) ?_⟩
            rw [if_neg (by simp)] at hN; exact hN
          · simp at h

theorem xDrawL_ok {P : Program} {call : CallF} (hc : CallHyp P call) {ops : Array Oper} {n : Nat} {O : Env} : ∀ (m i : Nat) (rs : List AV) (H : List AObj) (vs : List AV) (hs : List (List AObj)) (ks : List Kd) (low : Nat), xDrawL P call ops n O m i rs H = some (vs, hs, ks, low) →
    vs.length = m ∧ hs.length = m ∧ ks.length = m ∧ (∀ j, j ≤ m → Same low H ((H :: hs).getD j [])) ∧ ∀ j, j < m → ∃ low', xDraw1 P call ops n O (rs ++ vs.take j) ((H :: hs).getD j []) (i + j) = some (vs.getD j (.tuple []), (H :: hs).getD (j + 1) [], ks.getD j .pure, low')
  | 0, i, rs, H, vs, hs, ks, low, h => by
    simp only [xDrawL, Option.some.injEq, Prod.mk.injEq] at h
    obtain ⟨rfl, rfl, rfl, rfl⟩ := h
    exact ⟨rfl, rfl, rfl, fun j hj => by obtain rfl : j = 0 := by omega
                                         exact Same.refl _, fun j hj => absurd hj (by omega)⟩
  | m + 1, i, rs, H, vs, hs, ks, low, h => by
    simp only [xDrawL] at h
    split at h
    · rename_i v H' k lo h1
      split at h
      · rename_i vs' hs' ks' lo' h2
        simp only [Option.some.injEq, Prod.mk.injEq] at h
        obtain ⟨rfl, rfl, rfl, rfl⟩ := h
        obtain ⟨l1, l2, l3, hsame, hall⟩ := xDrawL_ok hc m (i + 1) _ _ _ _ _ _ h2
        refine ⟨by simp [l1], by simp [l2], by simp [l3], ?_, ?_⟩
        · intro j hj
          cases j with
          | zero => exact Same.refl _
          | succ j =>
            have := (xDraw1_ok hc h1).1.trans (hsame j (by omega))
            simpa using this
        · intro j hj
          cases j with
          | zero => exact ⟨lo, by simpa using h1⟩
          | succ j =>
            obtain ⟨low', hx⟩ := hall j (by omega)
            refine ⟨low', ?_⟩
            have e : i + (j + 1) = i + 1 + j := by omega
            rw [e]
            simpa using hx
      · simp at h
    · simp at h

theorem blt_lt' {a b : Nat} (h : Nat.blt a b = true) : a < b := Nat.le_of_ble_eq_true (show Nat.ble (a + 1) b = true from h)
theorem xLoad_congr {P : Program} {H H' : List AObj} {t : TypeId} {k i : Nat} (h : H'[k]? = H[k]?) : xLoad P H' t (.ptr k i) = xLoad P H t (.ptr k i) := by
  simp only [xLoad, h]

/-- A load of an old object that nobody writes: whatever else lies in the heap. -/
theorem xDraw1_load {P : Program} {call : CallF} {ops : Array Oper} {n : Nat} {O : Env} {rs : List AV} {H H' : List AObj} {i low k : Nat} {v : AV} (h : xDraw1 P call ops n O rs H i = some (v, H', .quiet, low)) (hld : ldOf ops O rs i = some k) :
    ∀ s', Ext (predEnv ops rs (preds ops i) O) s' → s'.n = n → s'.H[k]? = H[k]? → ∀ N Q, N (ASt.put s' (dstOf ops i) v) → AOp1 P ops i N Q s' := by
  unfold ldOf at hld
  split at hld
  · rename_i o ho
    split at hld
    · rename_i t x hop
      split at hld
      · rename_i k' i0 hx
        simp only [Option.some.injEq] at hld; subst hld
        unfold xDraw1 at h
        rw [ho] at h
        dsimp only at h
        have hdst : dstOf ops i = o.dst := by simp [dstOf, ho]
        rw [hdst]
        have hp : xPure P (predEnv ops rs (preds ops i) O) o.op = none := by rw [hop]; rfl
        have hgo : ∀ {y : Option (AV × List AObj × Kd × Nat)}, y = some (v, H', .quiet, low) → y = (bif dstOK o.dst n && stOK o then (match xPure P (predEnv ops rs (preds ops i) O) o.op with
            | some v => some (v, H, .pure, inf)
            | none => match xEff P call (predEnv ops rs (preds ops i) O) H o.op with
              | some (.go v H' low) => bif Nat.ble H.length low && Nat.beq H'.length H.length then some (v, H, .quiet, inf) else some (v, H', .eff, low)
              | _ => none) else none) → ∀ s', Ext (predEnv ops rs (preds ops i) O) s' → s'.n = n → s'.H[k']? = H[k']? → ∀ N Q, N (ASt.put s' o.dst v) → AOp P o N Q s' := by
          intro y hy h s' hE hn hH N Q hN
          rw [hy] at h
          obtain ⟨h1, h⟩ := bif_some h.symm
          rw [Bool.and_eq_true] at h1
          rw [hp] at h
          dsimp only at h
          cases hl : xLoad P H t (.ptr k' i0) with
          | none => simp [hop, xEff, hx, hl] at h
          | some w =>
            simp only [hop, xEff, hx, hl] at h
            have hv : w = v := by
              cases hb : (Nat.ble H.length inf && Nat.beq H.length H.length) with
              | true => rw [hb] at h; simp only [cond_true, Option.some.injEq, Prod.mk.injEq] at h; exact h.1
              | false => rw [hb] at h; simp only [cond_false, Option.some.injEq, Prod.mk.injEq] at h; exact h.1
            subst hv
            exact xLoad_ok hop (by rw [hn]; exact h1.1) (evE_ev hE hx) (by rw [xLoad_congr hH]; exact hl) hN
        split at h
        · rename_i hg
          exact fun s' hE hn hH N Q hN => op1 ho hg (hgo h rfl s' hE hn hH N Q hN)
        · rename_i j w hg
          split at h
          · simp at h
          · rename_i oj hj
            split at h
            · simp at h
            · rename_i d hd
              split at h
              · rename_i b hb
                rw [lookF_eq] at hb
                obtain ⟨hn', h⟩ := bif_some h
                have hn' : d < n := Nat.le_of_ble_eq_true (show Nat.ble (d + 1) n = true from hn')
                split at h
                · exact fun s' hE hn hH N Q hN => op1_do ho hg hj hd (by rw [hn]; exact decide_eq_true hn') (hE _ _ hb) rfl (hgo h rfl s' hE hn hH N Q hN)
                · exact fun s' hE hn hH N Q hN => op1_do ho hg hj hd (by rw [hn]; exact decide_eq_true hn') (hE _ _ hb) rfl (hgo h rfl s' hE hn hH N Q hN)
                · obtain ⟨_, h⟩ := bif_some h
                  simp at h
              · obtain ⟨_, h⟩ := bif_some h
                simp at h
              · simp at h
      · simp at hld
    · simp at hld
  · simp at hld

theorem predEnv_congr {ops : Array Oper} {rs rs' : List AV} {O : Env} : ∀ {l : List Nat}, (∀ j ∈ l, rs.getD j (.tuple []) = rs'.getD j (.tuple [])) → predEnv ops rs l O = predEnv ops rs' l O
  | [], _ => rfl
  | j :: l, h => by
    simp only [predEnv]
    rw [predEnv_congr fun j hj => h j (List.mem_cons_of_mem _ hj), h j (by simp)]

theorem xDraw_ok {P : Program} {call : CallF} (hc : CallHyp P call) (hmo : P.follows .mixedOrders = true) {id : Nat} {ops : Array Oper} {n : Nat} {E : Env} {D : Dfs} {H : List AObj} {r : XR} (h : xDraw P call ops n E D H = some r) : Same r.low H r.H ∧ ACode P (.region id ops true) (QX r n) ⟨E, D, n, H⟩ := by
  unfold xDraw at h
  split at h
  · rename_i vs hs ks low hL
    obtain ⟨hmk, h⟩ := bif_some h
    simp only [Option.some.injEq] at h; subst h
    obtain ⟨l1, l2, l3, hsame, hall⟩ := xDrawL_ok hc _ _ _ _ _ _ _ _ hL
    have hm := make_of hmk
    have hkd : ∀ i, kdOf ops (outerEnv ops E) vs ks low H.length i = ks.getD i .pure ∨ (ks.getD i .pure = .quiet ∧ kdOf ops (outerEnv ops E) vs ks low H.length i = .pure ∧ ∃ k, ldOf ops (outerEnv ops E) vs i = some k ∧ k < low ∧ k < H.length) := by
      intro i
      unfold kdOf
      split
      · rename_i hq
        split
        · rename_i k hk
          cases hb : (Nat.blt k low && Nat.blt k H.length) with
          | true =>
            rw [Bool.and_eq_true] at hb
            exact .inr ⟨hq, rfl, k, hk, blt_lt' hb.1, blt_lt' hb.2⟩
          | false => exact .inl hq.symm
        · exact .inl hq.symm
      · exact .inl rfl
    have heff : ∀ i, kdOf ops (outerEnv ops E) vs ks low H.length i ≠ .eff → ks.getD i .pure ≠ .eff := by
      intro i h1 h2
      rcases hkd i with h | ⟨h, _⟩
      · exact h1 (h.trans h2)
      · rw [h] at h2; cases h2
    refine ⟨hsame _ (Nat.le_refl _), c_region_draw (s := ⟨E, D, n, H⟩) hmo hmk (fun i => vs.getD i (.tuple [])) (fun i => (H :: hs).getD i []) rfl ?_ none ?_ ?_ ?_ ?_ ?_⟩
    · intro i hi hk
      obtain ⟨low', hx⟩ := hall i hi
      rw [Nat.zero_add] at hx
      exact (xDraw1_ok hc hx).2.1 (heff i hk)
    · intro i v h; cases h
    · intro i v h; cases h
    · intro i v h; cases h
    · intro i hi _ s' hmid hH hHj N Q hN
      obtain ⟨low', hx⟩ := hall i hi
      rw [Nat.zero_add] at hx
      have hpre : ∀ j ∈ preds ops i, ([] ++ vs.take i : List AV).getD j (.tuple []) = vs.getD j (.tuple []) := fun j hj => by
        have hji := hm.back i j hj
        simp only [List.nil_append, List.getD_eq_getElem?_getD]
        rw [List.getElem?_take_of_lt hji]
      have hext : Ext (predEnv ops ([] ++ vs.take i) (preds ops i) (outerEnv ops E)) s' := ext_pred hmid hpre
      rcases hkd i with hk | ⟨hq, hk, k, hld, hkl, hkn⟩
      · rw [hk] at hH hN
        exact (xDraw1_ok hc hx).2.2 s' hext hmid.n hH N Q hN
      · rw [hq] at hx
        rw [hk, if_neg (by simp)] at hN
        have hld' : ldOf ops (outerEnv ops E) ([] ++ vs.take i) i = some k := by
          rw [← hld]
          unfold ldOf
          rw [predEnv_congr hpre]
        refine xDraw1_load hx hld' s' hext hmid.n ?_ N Q hN
        obtain ⟨j, hj, e⟩ := hHj
        rw [e, (hsame j hj).2 k hkl hkn, (hsame i (by omega)).2 k hkl hkn]
    · intro _; exact ⟨rfl, rfl⟩
  · simp at h
end Go.Abs
