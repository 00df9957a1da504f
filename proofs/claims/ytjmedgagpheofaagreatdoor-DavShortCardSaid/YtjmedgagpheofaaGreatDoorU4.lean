/- DavShort answers true. -/
import Derived.Test.YtjmedgagpheofaaGreatDoorU3
import Derived.Test.YtjmedgagpheofaaGreatDoorXK
set_option linter.unusedSectionVars false
set_option linter.unusedVariables false
set_option linter.unusedSimpArgs false
set_option linter.constructorNameAsVariable false
namespace Go.Abs
open Go.RowKit Go.Proofs
set_option maxRecDepth 100000

theorem okKnown : GOK1 Tryz.prog 10 g10 := GOK1.of (ent_all _ _ Tryz.func10 rfl) fun l c v H hg hc => by
  unfold g10 at hg
  split at hg <;> simp only [Option.some.injEq, Prod.mk.injEq, reduceCtorEq] at hg
  obtain ⟨rfl, rfl⟩ := hg
  exact known_true H
theorem wok1 : GOK Tryz.prog w1 := ⟨okKnown, ok32, ok21, ok27, uok5⟩
theorem vp8e (code : Int) (s : Str) (hc : i64B code) : q8e code s := by
  rw [vc8e]
  simp only [cond_bool, decide_eq_true_eq, decide_eq_false_iff_not]
  refine ⟨fun _ => trivial, fun hs => ⟨hc, fun h1 => ⟨by unfold lenOK; omega, by unfold lenOK; omega, ?_⟩, fun h1 => ⟨by unfold lenOK; omega, by unfold lenOK; omega, ?_⟩⟩⟩
  · simp [h1]
  · simp [h1]
theorem quoS_len (m : Str) : (quoS m).length = m.length + 2 := by simp [quoS]
theorem quoS_quoted (m : Str) : quoted (quoS m) := by
  refine ⟨by rw [quoS_len]; omega, rfl, ?_⟩
  rw [quoS_len]
  simp [quoS, List.getD_eq_getElem?_getD]
theorem quoS_in (m : Str) : inS (quoS m) = m := by
  rw [inS, quoS_len]
  simp [quoS]
theorem vp8 (code : Int) (a : UInt8) (m s : Str) (hc : i64B code) : q8 code a m s := by
  rw [vc8]
  have e : ([34] ++ a :: m ++ [34] : Str) = quoS (a :: m) := rfl
  rw [e]
  simp only [cond_bool, decide_eq_true_eq, decide_eq_false_iff_not]
  refine ⟨fun _ => trivial, fun h1 => ⟨fun _ => trivial, fun h2 => ⟨⟨hc, by omega⟩, fun h3 => ?_, fun h3 => ?_⟩⟩⟩
  · have hl : (a :: m).length ≤ 300 := by omega
    have hq := quoS_len (a :: m)
    simp only [shortB, Bool.and_eq_true, Bool.or_eq_true] at h3
    obtain ⟨h4, h5⟩ := h3
    have h5 := h5.resolve_left (by simp)
    refine ⟨by omega, by simp at hl ⊢; omega, by unfold lenOK; omega, by unfold lenOK; omega, fun h => by simp at h, fun _ => ⟨by unfold lenOK; omega, fun h => ?_, fun _ => ⟨by unfold lenOK; omega, fun h => ?_, fun _ => ⟨⟨by unfold lenOK; omega, quoS_quoted _, ?_⟩, fun h => ⟨fun _ => trivial, fun h => ?_⟩, fun h => ?_⟩⟩⟩⟩
    · simp [h4, h5.1] at h
    · simp [h5.2] at h
    · rw [quoS_in]; exact h5.2
    · simp [quoS_in] at h
    · simp at h
  · have hl : (a :: m).length ≤ 300 := by omega
    have hq := quoS_len (a :: m)
    refine ⟨by omega, by simp at hl ⊢; omega, by unfold lenOK; omega, by unfold lenOK; omega, fun h => by simp at h, fun _ => ⟨by unfold lenOK; omega, fun _ => trivial, fun h => ⟨by unfold lenOK; omega, fun _ => trivial, fun h' => ?_⟩⟩⟩
    simp only [Bool.not_eq_false', Bool.and_eq_true] at h h'
    simp [shortB, h.1, h.2, h'] at h3
theorem pureB2 {P : Program} (hent : EntAll P) (hmo : P.follows .mixedOrders = true) {t2 : GT2} (ht2 : GOK2 P t2) {t : GT} (ht : GOK P t) {hs : Hints} {k : Nat} {f : FuncId} {l : List AV} {b : Bool} (h : vBody P hs (V P (tabD t) (tabF2 t2 t) hs k) f l [] (isB fun x => x = b)) (hl : LoL 0 l) (H : List AObj) : Pure P f l H (.bool b) :=
  Pure.of_nil ((callsA_v hent hmo (tabD_ok ht) (tabF2_ok ht2 ht) h).mono fun e H' he => isB_ret he) hl (.bool b) H
theorem short_true (code : Int) (mark s : Str) (hc : i64B code) (H : List AObj) : Pure Tryz.prog 8 [.int .i64 code, .str mark, .str s] H (.bool true) := by
  cases mark with
  | nil =>
    have h := vp8e code s hc
    unfold q8e at h
    exact pureB2 (P := Tryz.prog) ent_all mixed (t2 := [(29, g29)]) ok29 (t := w1) wok1 (hs := noH) (k := 80) h (.cons (.int _ _) (.cons (.str _) (.cons (.str _) .nil))) H
  | cons a m =>
    have h := vp8 code a m s hc
    unfold q8 at h
    exact pureB2 (P := Tryz.prog) ent_all mixed (t2 := [(29, g29)]) ok29 (t := w1) wok1 (hs := noH) (k := 80) h (.cons (.int _ _) (.cons (.str _) (.cons (.str _) .nil))) H
end Go.Abs
