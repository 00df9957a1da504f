/- DavShort: what its callees answer. -/
import Derived.Test.YtjmedgagpheofaaGreatDoorU1
set_option linter.unusedSectionVars false
set_option linter.unusedVariables false
set_option linter.unusedSimpArgs false
set_option linter.constructorNameAsVariable false
namespace Go.Abs
open Go.RowKit Go.Proofs
set_option maxRecDepth 100000

theorem itoa_short {n : Int} (h : i64B n) : (Lib.itoa n).length ≤ 21 := Lib.itoa_length_le n h.1 h.2
theorem codeB_t {c : Int} : codeB c = true ↔ 100 ≤ c ∧ c ≤ 599 := by simp [codeB]
theorem codeB_f {c : Int} : codeB c = false ↔ ¬ (100 ≤ c ∧ c ≤ 599) := by rw [← codeB_t]; simp
theorem laidS_pos (a : Str) (l : List (Str × Str)) (b : Str) : 0 < (bytesA (laidS a l b)).length := by
  rw [bytesA_len]
  simp only [laidS, List.cons_append, lineS, List.length_append, List.length_cons, List.length_nil]
  omega
theorem lo_rep (c : Int) (l : AV) (n : Int) (hl : Lo 0 l) : Lo 0 (.tuple [.agg [.int .i64 c, l, .nils], .int .i64 n]) :=
  .tuple (.cons (.agg (.cons (.int _ _) (.cons hl (.cons .nils .nil)))) (.cons (.int _ _) .nil))
theorem lo_cond {b : Bool} {v w : AV} (h1 : Lo 0 v) (h2 : Lo 0 w) : Lo 0 (cond b v w) := by cases b <;> assumption

theorem vp29e (code : Int) (hc : i64B code) : q29e code := by
  rw [vc29e]
  have hl := itoa_short hc
  simp only [cond_bool, decide_eq_true_eq, decide_eq_false_iff_not, Bool.not_eq_true', Bool.not_eq_false']
  refine ⟨fun h1 => ⟨fun h2 => ?_, fun h2 => ⟨hc, by omega, by simp [i64B], by omega, ⟨by simp [shortOK]; omega, by simp, by simp [shortOK]⟩, laidS_pos _ _ _, ?_⟩⟩, fun h1 => ?_⟩
  · rw [codeB_f.2 (by omega)]; exact .refl _
  · rw [codeB_t.2 (by omega)]; exact .refl _
  · rw [codeB_f.2 (by omega)]; exact .refl _
theorem quoS_eq (m : Str) : quoS m = [34] ++ m ++ [34] := rfl
theorem vp29 (code : Int) (a : UInt8) (m : Str) (hc : i64B code) (hm : (a :: m).length ≤ 300) : q29 code a m := by
  rw [vc29]
  have hl := itoa_short hc
  have e : ([34] ++ a :: m ++ [34] : Str) = quoS (a :: m) := rfl
  have hne : ((a :: m) == ([] : Str)) = false := rfl
  have hq : (quoS (a :: m)).length ≤ 302 := by
    simp only [quoS, List.length_append, List.length_cons, List.length_nil] at *
    omega
  rw [e]
  simp only [cond_bool, decide_eq_true_eq, decide_eq_false_iff_not, Bool.not_eq_true', Bool.not_eq_false']
  refine ⟨by omega, by simp at hm ⊢; omega, fun h1 => ⟨fun h2 => ?_, fun h2 => ⟨by unfold lenOK; omega, fun h3 => ?_, fun h3 => ⟨hc, by omega, by simp [i64B], by omega, ⟨by simp [shortOK]; omega, by simp, by simp [shortOK], by simp [shortOK], by unfold shortOK; omega⟩, laidS_pos _ _ _, by unfold lenOK; omega, fun h4 => ?_, fun h4 => ?_⟩⟩⟩, fun h1 => ?_⟩
  · have : shortB code (a :: m) = false := by simp [shortB, codeB_f.2 (show ¬ (100 ≤ code ∧ code ≤ 599) by omega)]
    rw [this]; exact .refl _
  · have : shortB code (a :: m) = false := by simp [shortB, h3]
    rw [this]; exact .refl _
  · have : shortB code (a :: m) = false := by simp [shortB, h4]
    rw [this]; exact .refl _
  · have : shortB code (a :: m) = true := by simp [shortB, h4, h3, codeB_t.2 (show 100 ≤ code ∧ code ≤ 599 by omega)]
    rw [this]; exact .refl _
  · have : shortB code (a :: m) = false := by simp [shortB, codeB_f.2 (show ¬ (100 ≤ code ∧ code ≤ 599) by omega)]
    rw [this]; exact .refl _
theorem ok29 : GOK2 Tryz.prog [(29, g29)] := ⟨fun l c b v w H hg hc => .inl ⟨ent_all _ _ Tryz.func29 rfl, by
  replace hg : g29 l = some (c, b, v, w) := hg
  unfold g29 at hg
  split at hg <;> simp only [Option.some.injEq, Prod.mk.injEq, reduceCtorEq] at hg
  · rename_i code
    obtain ⟨rfl, rfl, rfl, rfl⟩ := hg
    have h := vp29e code hc
    unfold q29e at h
    exact pureW (P := Tryz.prog) ent_all mixed (t := w0) uok5 (hs := noH) (k := 80) h (.cons (.int _ _) (.cons (.str _) .nil)) (lo_cond (lo_rep _ _ _ .nils) (lo_rep _ _ _ .nils)) H
  · rename_i code a m
    obtain ⟨rfl, rfl, rfl, rfl⟩ := hg
    have h := vp29 code a m hc.1 hc.2
    unfold q29 at h
    exact pureW (P := Tryz.prog) ent_all mixed (t := w0) uok5 (hs := noH) (k := 80) h (.cons (.int _ _) (.cons (.str _) .nil)) (lo_cond (lo_rep _ _ _ (lo_head1 _ _)) (lo_rep _ _ _ .nils)) H⟩, trivial⟩
theorem lo_agg (c : Int) (l : AV) (hl : Lo 0 l) : Lo 0 (.agg [.int .i64 c, l, .nils]) := .agg (.cons (.int _ _) (.cons hl (.cons .nils .nil)))
theorem ok32 : GOK1 Tryz.prog 32 g32 := GOK1.of (ent_all _ _ Tryz.func32 rfl) fun l c v H hg hc => by
  unfold g32 at hg
  split at hg <;> simp only [Option.some.injEq, Prod.mk.injEq, reduceCtorEq] at hg
  · rename_i code
    obtain ⟨rfl, rfl⟩ := hg
    have h : q32e code := by
      rw [vc32e]
      simp only [codeB]
      cases decide (100 ≤ code) <;> cases decide (code ≤ 599) <;> simp
    unfold q32e at h
    exact pureB (P := Tryz.prog) ent_all mixed (t := w0) uok5 (hs := noH) (k := 80) h (.cons (lo_agg _ _ .nils) .nil) H
  · rename_i code v
    obtain ⟨rfl, rfl⟩ := hg
    have h : q32 code v := by
      rw [vc32]
      simp only [codeB]
      cases h1 : decide (100 ≤ code) <;> cases h2 : decide (code ≤ 599) <;> cases valB v <;> simp_all
    unfold q32 at h
    exact pureB (P := Tryz.prog) ent_all mixed (t := w0) uok5 (hs := noH) (k := 80) h (.cons (lo_agg _ _ (lo_head1 _ _)) .nil) H
theorem ok21 : GOK1 Tryz.prog 21 g21 := GOK1.of (ent_all _ _ Tryz.func21 rfl) fun l c v H hg hc => by
  unfold g21 at hg
  split at hg <;> simp only [Option.some.injEq, Prod.mk.injEq, reduceCtorEq] at hg
  · rename_i a b
    obtain ⟨rfl, rfl⟩ := hg
    have h : q21e a b := by
      rw [vc21e]
      cases a == b <;> simp
    unfold q21e at h
    exact pureB (P := Tryz.prog) ent_all mixed (t := w0) uok5 (hs := noH) (k := 80) h (.cons (lo_agg _ _ .nils) (.cons (lo_agg _ _ .nils) .nil)) H
  · rename_i a n v b n' v'
    obtain ⟨rfl, rfl⟩ := hg
    have h : q21 a b n v n' v' := by
      rw [vc21]
      cases a == b <;> cases (n == n' && v == v') <;> simp
    unfold q21 at h
    exact pureB (P := Tryz.prog) ent_all mixed (t := w0) uok5 (hs := noH) (k := 80) h (.cons (lo_agg _ _ (lo_head1 _ _)) (.cons (lo_agg _ _ (lo_head1 _ _)) .nil)) H
theorem ok27 : GOK1 Tryz.prog 27 g27 := GOK1.of (ent_all _ _ Tryz.func27 rfl) fun l c v H hg hc => by
  unfold g27 at hg
  split at hg <;> simp only [Option.some.injEq, Prod.mk.injEq, reduceCtorEq] at hg
  · rename_i a
    obtain ⟨rfl, rfl⟩ := hg
    have h : q27e a := by rw [vc27e]; exact .refl _
    unfold q27e at h
    exact pureW (P := Tryz.prog) ent_all mixed (t := w0) uok5 (hs := noH) (k := 80) h (.cons (lo_agg _ _ .nils) .nil) (.tuple (.cons (.str _) (.cons (.bool _) .nil))) H
  · rename_i a v
    obtain ⟨rfl, rfl⟩ := hg
    obtain ⟨hv, ⟨hq1, hq2, hq3⟩, hm⟩ := hc
    have h : q27 a v := by
      rw [vc27]
      have hv' := hv
      unfold lenOK at hv'
      rw [wrapP hv' (by omega)]
      simp only [Int.toNat_natCast]
      have e : List.take (v.length - 1 - 1) (List.drop 1 v) = inS v := by rw [inS, show v.length - 1 - 1 = v.length - 2 by omega]
      rw [e, hq2, hq3, hm]
      have hd : decide ((v.length : Int) ≥ 2) = true := by simp; omega
      rw [hd]
      refine ⟨by simp, ⟨by omega, by omega⟩, ⟨by omega, by omega⟩, ⟨by omega, by omega, by omega⟩, ?_, .refl _⟩
      unfold lenOK inS
      simp
      omega
    unfold q27 at h
    exact pureW (P := Tryz.prog) ent_all mixed (t := w0) uok5 (hs := noH) (k := 80) h (.cons (lo_agg _ _ (lo_head1 _ _)) .nil) (.tuple (.cons (.str _) (.cons (.bool _) .nil))) H
def g10 : GF := fun l => match l with
  | [] => some (none, .bool true)
  | _ => none
def w1 : GT := (10, g10) :: (32, g32) :: (21, g21) :: (27, g27) :: w0
def q8e (code : Int) (s : Str) : Prop := vBody Tryz.prog noH (V Tryz.prog (tabD w1) (tabF2 [(29, g29)] w1) noH 80) 8 [.int .i64 code, .str [], .str s] [] (isB fun b => b = true)
def q8 (code : Int) (a : UInt8) (m s : Str) : Prop := vBody Tryz.prog noH (V Tryz.prog (tabD w1) (tabF2 [(29, g29)] w1) noH 80) 8 [.int .i64 code, .str (a :: m), .str s] [] (isB fun b => b = true)
end Go.Abs
