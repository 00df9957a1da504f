/- The abstract layer: a call at a heap of which a part is hidden; the hidden part stands behind it. -/
import Derived.Test.YtjmedgagpheofaaGreatDoorF7
set_option linter.unusedSectionVars false
set_option linter.unusedVariables false
set_option linter.unusedSimpArgs false
set_option linter.constructorNameAsVariable false
namespace Go.Abs
open Go.RowKit
variable [Tabs]

/-- Objects hidden, and shown again. -/
def hideL (D : Nat → Bool) : Nat → List AObj → List AObj
  | _, [] => []
  | i, o :: os => (bif D i then .dead else o) :: hideL D (i + 1) os
def showL (D : Nat → Bool) : Nat → List AObj → List AObj → List AObj
  | _, _, [] => []
  | _, [], os => os
  | i, o :: H, x :: os => (bif D i then o else x) :: showL D (i + 1) H os
theorem hideL_length (D : Nat → Bool) : ∀ (i : Nat) (H : List AObj), (hideL D i H).length = H.length
  | _, [] => rfl
  | i, o :: H => by simp [hideL, hideL_length D (i + 1) H]
theorem hideL_get (D : Nat → Bool) : ∀ (i : Nat) (H : List AObj) (r : Nat), (hideL D i H)[r]? = (H[r]?).map fun o => bif D (i + r) then .dead else o
  | _, [], r => by simp [hideL]
  | i, o :: H, 0 => by simp [hideL]
  | i, o :: H, r + 1 => by
    simp only [hideL, List.getElem?_cons_succ, hideL_get D (i + 1) H r]
    rw [show i + 1 + r = i + (r + 1) by omega]
theorem showL_length (D : Nat → Bool) : ∀ (i : Nat) (H os : List AObj), (showL D i H os).length = os.length
  | _, _, [] => by simp [showL]
  | _, [], _ :: _ => by simp [showL]
  | i, o :: H, x :: os => by simp [showL, showL_length D (i + 1) H os]
theorem showL_get (D : Nat → Bool) : ∀ (i : Nat) (H os : List AObj) (r : Nat), (showL D i H os)[r]? = (os[r]?).map fun x => match H[r]? with | some o => bif D (i + r) then o else x | none => x
  | _, _, [], r => by simp [showL]
  | _, [], x :: os, r => by simp [showL]
  | i, o :: H, x :: os, 0 => by simp [showL]
  | i, o :: H, x :: os, r + 1 => by
    simp only [showL, List.getElem?_cons_succ, showL_get D (i + 1) H os r]
    rw [show i + 1 + r = i + (r + 1) by omega]

section
variable {P : Program} {G : Gh} {H : List AObj} {W : World}
/-- A block of a hidden object. -/
def hidB (G : Gh) (D : Nat → Bool) (n b : Nat) : Prop := ∃ i r j, G.own b i = some (r, j) ∧ r < n ∧ D r = true
open Classical in
noncomputable def Gh.hide (G : Gh) (D : Nat → Bool) (n : Nat) (W : World) : Gh :=
  { G with
    own := fun b i => if hidB G D n b then none else G.own b i
    kept := fun b => G.kept b ∨ hidB G D n b
    fixed := fun g => G.fixed g ∨ (g < n ∧ D g = true)
    w0 := W }
theorem Gh.hide_sub (D : Nat → Bool) (n : Nat) (W : World) : G.sub (G.hide D n W) := ⟨fun _ _ h => h, fun _ _ _ h => h, fun _ _ _ h => h⟩

theorem R.hide (r : R G H W) (D : Nat → Bool) : R (G.hide D H.length W) (hideL D 0 H) W := by
  have hown : ∀ b i p, (G.hide D H.length W).own b i = some p → G.own b i = some p ∧ ¬ hidB G D H.length b := by
    intro b i p h
    simp only [Gh.hide] at h
    split at h
    · cases h
    · rename_i hn; exact ⟨h, hn⟩
  refine ⟨r.imm, fun b i h => ?_, fun b i h => ?_, fun b i i' p p' h h' => ?_, fun q p h => ?_, fun g n p h => ?_, Keep.refl _ _, fun k hk => ?_, fun g hg => ?_, fun q o h => ?_, ?_⟩
  · have := r.apart b i h
    simp only [Gh.hide, this, ite_self]
  · cases hx : (G.hide D H.length W).own b i with
    | none => exact absurd hx h
    | some p =>
      obtain ⟨h1, h2⟩ := hown b i p hx
      have := r.own b i (by rw [h1]; simp)
      exact ⟨fun hk => hk.elim this.1 h2, this.2⟩
  · exact r.sep b i i' p p' (hown _ _ _ h).1 (hown _ _ _ h').1
  · rw [hideL_length]; exact r.dom q p h
  · rw [hideL_length]; exact r.domg g n p h
  · rcases hk with hk | ⟨i, q, j, hk, _⟩
    · exact r.kept_lt k hk
    · exact (r.own k i (by rw [hk]; simp)).2
  · rw [hideL_get]
    rcases hg with hg | ⟨h1, h2⟩
    · rw [r.fixed g hg]; simp
    · rw [List.getElem?_eq_getElem h1]; simp [h2]
  · rw [hideL_get] at h
    obtain ⟨o', ho', he⟩ := Option.map_eq_some_iff.1 h
    rw [Nat.zero_add] at he
    cases hD : D q with
    | true => rw [hD] at he; simp only [cond_true] at he; subst he; trivial
    | false =>
      rw [hD] at he; simp only [cond_false] at he; subst he
      have hkeep : ∀ b i j, G.own b i = some (q, j) → (G.hide D H.length W).own b i = some (q, j) := by
        intro b i j hb
        simp only [Gh.hide]
        rw [if_neg ?_]; · exact hb
        rintro ⟨i', q', j', hb', _, hD'⟩
        have := r.sep b i i' _ _ hb hb'
        simp only at this
        subst this
        rw [hD] at hD'; cases hD'
      exact (r.obj q o' ho').keep (Gh.hide_sub D _ W) hkeep (fun _ _ h => h) (fun _ _ _ _ => rfl)
  · exact ⟨fun k hk => .inl (r.tab.1 k hk), r.tabOK⟩

open Classical in
noncomputable def Gh.unhide (G G' : Gh) (D : Nat → Bool) (n : Nat) : Gh :=
  { G' with
    own := fun b i => if hidB G D n b then G.own b i else G'.own b i
    kept := G.kept
    fixed := G.fixed
    w0 := G.w0 }

theorem R.unhide (r : R G H W) (D : Nat → Bool) {G' : Gh} {H' : List AObj} {W' : World} (hle : (G.hide D H.length W).le G') (r' : R G' H' W') :
    R (G.unhide G' D H.length) (showL D 0 H H') W' ∧ G.le (G.unhide G' D H.length) ∧ G'.sub (G.unhide G' D H.length) := by
  have hsub : G'.sub (G.unhide G' D H.length) := ⟨fun _ _ h => h, fun _ _ _ h => h, fun _ _ _ h => h⟩
  have hkeep : ∀ b, hidB G D H.length b → G'.kept b := fun b hb => by rw [hle.kept]; exact .inr hb
  have hk0 : ∀ b, G.kept b → G'.kept b := fun b hb => by rw [hle.kept]; exact .inl hb
  have hw0 : G'.w0 = W := hle.w0
  have hblock : ∀ b, G'.kept b → W'.heap[b]? = W.heap[b]? := fun b hb => by rw [← hw0]; exact r'.below.block b hb
  have hsize : W.heap.size ≤ W'.heap.size := by rw [← hw0]; exact r'.below.size
  have hleG : G.le (G.unhide G' D H.length) := by
    refine ⟨⟨fun q p h => hle.place q p h, fun b i v h => hle.imm b i v h, fun g n p h => hle.gen g n p h⟩, rfl, rfl, rfl, fun b i v h => ?_, fun g n p h => ?_, fun g p h => ?_⟩
    · rcases hle.newimm b i v h with h | h
      · exact .inl h
      · exact .inr fun hk => h (.inl hk)
    · rcases hle.newgen g n p h with h | h
      · exact .inl h
      · exact .inr fun hk => h (.inl hk)
    · rcases hle.newplace g p h with h | h
      · exact .inl h
      · exact .inr fun hk => h (.inl hk)
  have hown : ∀ b i p, (G.unhide G' D H.length).own b i = some p → (hidB G D H.length b ∧ G.own b i = some p) ∨ (¬ hidB G D H.length b ∧ G'.own b i = some p) := by
    intro b i p h
    simp only [Gh.unhide] at h
    split at h
    · rename_i hb; exact .inl ⟨hb, h⟩
    · rename_i hb; exact .inr ⟨hb, h⟩
  have hnot : ∀ b i p, G'.own b i = some p → ¬ hidB G D H.length b := fun b i p h hb => (r'.own b i (by rw [h]; simp)).1 (hkeep b hb)
  refine ⟨⟨r'.imm, fun b i h => ?_, fun b i h => ?_, fun b i i' p p' h h' => ?_, fun q p h => ?_, fun g n p h => ?_, ?_, r.base, fun g hg => ?_, fun q o h => ?_, r.tab⟩, hleG, hsub⟩
  · simp only [Gh.unhide]
    split
    · rename_i hb
      cases hv : G'.imm b i with
      | none => exact absurd hv h
      | some v =>
        rcases hle.newimm b i v hv with h1 | h1
        · exact r.apart b i (by rw [show G.imm b i = some v from h1]; simp)
        · exact absurd (.inr hb) h1
    · exact r'.apart b i h
  · cases hx : (G.unhide G' D H.length).own b i with
    | none => exact absurd hx h
    | some p =>
      rcases hown b i p hx with ⟨_, h1⟩ | ⟨_, h1⟩
      · have := r.own b i (by rw [h1]; simp)
        exact ⟨this.1, Nat.lt_of_lt_of_le this.2 hsize⟩
      · have := r'.own b i (by rw [h1]; simp)
        exact ⟨fun hk => this.1 (hk0 b hk), this.2⟩
  · rcases hown b i p h with ⟨a1, a2⟩ | ⟨a1, a2⟩ <;> rcases hown b i' p' h' with ⟨b1, b2⟩ | ⟨b1, b2⟩
    · exact r.sep b i i' p p' a2 b2
    · exact absurd a1 b1
    · exact absurd b1 a1
    · exact r'.sep b i i' p p' a2 b2
  · rw [showL_length]; exact r'.dom q p h
  · rw [showL_length]; exact r'.domg g n p h
  · refine ⟨?_, ?_, ?_, Nat.le_trans r.below.size hsize, fun k hk => (hblock k (hk0 k hk)).trans (r.below.block k hk)⟩
    · rw [r'.below.os, hw0]; exact r.below.os
    · rw [r'.below.tape, hw0]; exact r.below.tape
    · rw [r'.below.output, hw0]; exact r.below.output
  · have h1 := r'.fixed g (by rw [hle.fixed]; exact .inl hg)
    rw [showL_get, h1, r.fixed g hg]
    simp
  · rw [showL_get] at h
    obtain ⟨o', ho', he⟩ := Option.map_eq_some_iff.1 h
    rw [Nat.zero_add] at he
    have hvis : ∀ o', H'[q]? = some o' → RO (G.unhide G' D H.length) W' q o' := by
      intro o' ho'
      have hk2 : ∀ b i p, G'.own b i = some p → (G.unhide G' D H.length).own b i = some p := by
        intro b i p hb
        simp only [Gh.unhide]
        rw [if_neg (hnot b i p hb)]; exact hb
      exact (r'.obj q o' ho').keep hsub (fun b i j h => hk2 b i _ h) (fun _ _ h => h) (fun _ _ _ _ => rfl)
    cases hq : H[q]? with
    | none => rw [hq] at he; simp only at he; subst he; exact hvis _ ho'
    | some oq =>
      rw [hq] at he
      simp only at he
      cases hD : D q with
      | false => rw [hD] at he; simp only [cond_false] at he; subst he; exact hvis _ ho'
      | true =>
        rw [hD] at he; simp only [cond_true] at he; subst he
        have hql : q < H.length := by
          rcases Nat.lt_or_ge q H.length with h' | h'
          · exact h'
          · rw [List.getElem?_eq_none h'] at hq; cases hq
        have hfix : G'.fixed q := by rw [hle.fixed]; exact .inr ⟨hql, hD⟩
        have hb1 : ∀ b i j, G.own b i = some (q, j) → hidB G D H.length b := fun b i j h => ⟨i, q, j, h, hql, hD⟩
        have hk2 : ∀ b i j, G.own b i = some (q, j) → (G.unhide G' D H.length).own b i = some (q, j) := by
          intro b i j hb
          simp only [Gh.unhide]
          rw [if_pos (hb1 b i j hb)]; exact hb
        refine (r.obj q oq hq).keep hleG.tosub hk2 (fun m p hm => ?_) (fun b i j h => hblock b (hkeep b (hb1 _ _ _ h)))
        rcases hle.newgen q m p hm with h2 | h2
        · exact h2
        · exact absurd (.inr ⟨hql, hD⟩) h2

theorem CallsA.frame {f : FuncId} {args : List AV} {H : List AObj} {Q : AEnd → List AObj → Prop} (D : Nat → Bool) (h : CallsA P f args (hideL D 0 H) fun e H' => Q e (showL D 0 H H')) : CallsA P f args H Q := by
  refine ⟨fun G W vs hv r => ?_⟩
  refine (h.out _ W vs (hv.monoS (Gh.hide_sub D H.length W)) (r.hide D)).mono ?_
  rintro e W' ⟨ae, H', G', q, re, r', hle⟩
  obtain ⟨r2, hle2, hsub⟩ := r.unhide D hle r'
  refine ⟨ae, _, _, q, ?_, r2, hle2⟩
  cases re with
  | ret hx => exact .ret (hx.monoS hsub)
  | panic hx => exact .panic (hx.monoS hsub)
end
end Go.Abs
