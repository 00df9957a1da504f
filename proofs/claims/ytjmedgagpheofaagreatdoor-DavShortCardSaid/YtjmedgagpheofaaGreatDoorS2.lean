/- dav: marks, places: what the small functions answer. -/
import Derived.Test.YtjmedgagpheofaaGreatDoorS1
set_option linter.unusedSectionVars false
set_option linter.unusedVariables false
set_option linter.unusedSimpArgs false
set_option linter.constructorNameAsVariable false
namespace Go.Abs
open Go.RowKit Go.Proofs
set_option maxRecDepth 100000
theorem wrapS {n : Nat} {s : Str} (hs : lenOK s) (h : n < s.length) : IntKind.wrap .i64 ((n : Int) + 1) = ((n + 1 : Nat) : Int) := by
  unfold lenOK at hs
  rw [IntKind.wrap_i64]
  omega
theorem plainS_take {s : Str} {n : Nat} (h : n < s.length) : plainS (s.take (n + 1)) = (plainS (s.take n) && plainZ (s.getD n 0).toNat) := by
  simp only [plainS, List.take_add_one, List.all_append]
  congr 1
  simp [List.getD_eq_getElem?_getD, List.getElem?_eq_getElem h]
theorem plainS_not {s : Str} {n : Nat} (h : n < s.length) (hp : plainZ (s.getD n 0).toNat = false) : plainS s = false := by
  rw [plainS, List.all_eq_false]
  refine ⟨s[n], List.getElem_mem h, ?_⟩
  simpa [List.getD_eq_getElem?_getD, List.getElem?_eq_getElem h] using hp

theorem plainZ_t {i : Int} : plainZ i = true ↔ (48 ≤ i ∧ i ≤ 57 ∨ 65 ≤ i ∧ i ≤ 90 ∨ 97 ≤ i ∧ i ≤ 122 ∨ i = 45 ∨ i = 46 ∨ i = 95) := by simp [plainZ, or_assoc]
theorem plainZ_f {i : Int} : plainZ i = false ↔ ¬ (48 ≤ i ∧ i ≤ 57 ∨ 65 ≤ i ∧ i ≤ 90 ∨ 97 ≤ i ∧ i ≤ 122 ∨ i = 45 ∨ i = 46 ∨ i = 95) := by rw [← plainZ_t]; simp

theorem vp128 (i : Int) : q128 i := by
  rw [vc128]
  simp only [cond_bool, decide_eq_true_eq, decide_eq_false_iff_not]
  (repeat' (first | apply And.intro | intro _)) <;> (refine Bool.eq_iff_iff.mpr ?_; simp only [plainZ, Bool.or_eq_true, Bool.and_eq_true, decide_eq_true_eq, beq_iff_eq, beq_eq_false_iff_ne, ne_eq, eq_self, true_iff, Bool.false_eq_true, false_iff] at * <;> omega)
theorem ok128 : GOK1 Tryz.prog 128 g128 := GOK1.of (ent_all _ _ Tryz.func128 rfl) fun l c v H hg hc => by
  unfold g128 at hg
  split at hg <;> simp only [Option.some.injEq, Prod.mk.injEq, reduceCtorEq] at hg
  rename_i i
  obtain ⟨rfl, rfl⟩ := hg
  have h := vp128 i
  unfold q128 at h
  exact pureB (P := Tryz.prog) ent_all mixed (t := t0) trivial (hs := noH) (k := 60) h (.cons (.int _ _) .nil) H
theorem tok1 : GOK Tryz.prog t1 := ⟨ok128, trivial⟩

theorem vp129 (s : Str) (hc : lenOK s) : q129 s := by
  rw [vc129]
  simp only [cond_bool, decide_eq_true_eq, decide_eq_false_iff_not, eqD_rfl, eqH_rfl, measLt_none, measLt_some, true_and, and_true]
  refine ⟨⟨0, ⟨Nat.zero_le _, by simp [plainS]⟩, by simp [bytesA]⟩, fun x hx => ⟨fun hlt => ⟨⟨by omega, by simp [bytesA]; omega, ?_⟩, ?_, ?_, ?_⟩, ?_⟩⟩
  · simp only [bytesA, List.getD_eq_getElem?_getD, List.getElem?_map, Int.toNat_natCast]
    rw [List.getElem?_eq_getElem (by omega)]
    rfl
  · simp only [bytesA, List.getD_eq_getElem?_getD, List.getElem?_map, Int.toNat_natCast]
    rw [List.getElem?_eq_getElem (by omega)]
    rfl
  · intro hp
    rw [plainS_not (n := x) (by omega) (by simpa using hp)]
  · intro hp
    refine ⟨x + 1, ⟨by omega, ?_⟩, by omega, ?_⟩
    · rw [plainS_take (by omega), hx.2]; simpa using hp
    · rw [wrapS hc (by omega)]
  · intro hlt
    have : x = s.length := by omega
    subst this
    simpa using hx.2.symm
theorem ok129 : GOK1 Tryz.prog 129 g129 := GOK1.of (ent_all _ _ Tryz.func129 rfl) fun l c v H hg hc => by
  unfold g129 at hg
  split at hg <;> simp only [Option.some.injEq, Prod.mk.injEq, reduceCtorEq] at hg
  rename_i s
  obtain ⟨rfl, rfl⟩ := hg
  have h := vp129 s hc
  unfold q129 at h
  exact pureB (P := Tryz.prog) ent_all mixed (t := t1) tok1 (hs := hs129) (k := 60) h (.cons (.str _) (.cons (.func .nil) .nil)) H
theorem tok2 : GOK Tryz.prog t2 := ⟨ok129, tok1⟩

theorem vp74 (s : Str) (hc : lenOK s) : q74 s := by
  rw [vc74]
  simp only [cond_bool, decide_eq_true_eq, decide_eq_false_iff_not]
  refine ⟨fun h1 => ⟨fun h2 => ⟨hc, ?_⟩, fun h2 => ?_⟩, fun h1 => ?_⟩
  · have e1 : 1 ≤ s.length := by omega
    have e2 : s.length ≤ 64 := by omega
    simp [markB, e1, e2]
  · have e2 : ¬ s.length ≤ 64 := by omega
    simp [markB, e2]
  · have e1 : ¬ 1 ≤ s.length := by omega
    simp [markB, e1]
theorem ok74 : GOK1 Tryz.prog 74 g74 := GOK1.of (ent_all _ _ Tryz.func74 rfl) fun l c v H hg hc => by
  unfold g74 at hg
  split at hg <;> simp only [Option.some.injEq, Prod.mk.injEq, reduceCtorEq] at hg
  rename_i s
  obtain ⟨rfl, rfl⟩ := hg
  have h := vp74 s hc
  unfold q74 at h
  exact pureB (P := Tryz.prog) ent_all mixed (t := t2) tok2 (hs := noH) (k := 60) h (.cons (.str _) .nil) H

theorem vp33 (s : Str) (hc : lenOK s) : q33 s := by
  rw [vc33]
  simp only [cond_bool, decide_eq_true_eq, decide_eq_false_iff_not, eqD_rfl, eqH_rfl, measLt_none, measLt_some, true_and, and_true]
  refine ⟨⟨0, ⟨Nat.zero_le _, by simp [plainS]⟩, by simp⟩, fun x hx => ⟨fun hlt => ⟨⟨by omega, by omega⟩, ?_, fun _ _ => ⟨fun hp => ?_, fun hp => ?_⟩⟩, fun hlt => ⟨fun h1 => ?_, fun h1 => ?_⟩⟩⟩
  · (repeat' (first | apply And.intro | intro _)) <;> (refine ⟨(), AV.bool.injEq _ _ ▸ ?_⟩; refine Bool.eq_iff_iff.mpr ?_; simp only [plainZ_t, plainZ_f, Bool.or_eq_true, Bool.and_eq_true, decide_eq_true_eq, beq_iff_eq, beq_eq_false_iff_ne, ne_eq, eq_self, true_iff, Bool.false_eq_true, false_iff, Bool.not_eq_true', bne_iff_ne, bne_eq_false_iff_eq] at * <;> omega)
  · have h2 := plainS_not (s := s) (n := x) (by omega) (by simpa using hp)
    simp [markB, h2]
  · refine ⟨x + 1, ⟨by omega, ?_⟩, by omega, ?_⟩
    · rw [plainS_take (by omega), hx.2]; simpa using hp
    · rw [wrapS hc (by omega)]
  · have e : x = s.length := by omega
    subst e
    have h2 : plainS s = true := by simpa using hx.2
    have h3 : 1 ≤ s.length := by omega
    simp [markB, h2, h3]
    omega
  · have h3 : ¬ 1 ≤ s.length := by omega
    simp [markB, h3]
theorem ok33 : GOK1 Tryz.prog 33 g33 := GOK1.of (ent_all _ _ Tryz.func33 rfl) fun l c v H hg hc => by
  unfold g33 g74 at hg
  split at hg <;> simp only [Option.some.injEq, Prod.mk.injEq, reduceCtorEq] at hg
  rename_i s
  obtain ⟨rfl, rfl⟩ := hg
  have h := vp33 s hc
  unfold q33 at h
  exact pureB (P := Tryz.prog) ent_all mixed (t := t2) tok2 (hs := hs33) (k := 60) h (.cons (.str _) .nil) H
theorem tok3 : GOK Tryz.prog t3 := ⟨ok74, ok33, tok2⟩
theorem vp30 (s : Str) (hc : lenOK s) : q30 s := by
  rw [vc30]
  have e6 : List.length ([47, 98, 111, 111, 107, 47] : Str) = 6 := rfl
  simp only [cond_bool, decide_eq_true_eq, decide_eq_false_iff_not, e6, Int.toNat_natCast]
  refine ⟨fun h1 => ⟨by omega, fun h2 => ?_, fun h2 => ⟨by omega, by unfold lenOK at *; simp; omega, ?_⟩⟩, fun h1 => ?_⟩
  · have h2 : (List.take 6 s == [47, 98, 111, 111, 107, 47]) = false := by simpa using h2
    simp [hrefB, h2]
  · have h2 : (List.take 6 s == [47, 98, 111, 111, 107, 47]) = true := by simpa using h2
    rw [hrefB, h2]
    by_cases h6 : 6 < s.length
    · simp [h6]
    · have : s.length = 6 := by omega
      simp [markB, this]
  · have : ¬ 6 < s.length := by omega
    simp [hrefB, this]
theorem vp31 (s : Str) (hc : lenOK s) : q31 s := by
  rw [vc31]
  simp only [cond_bool, decide_eq_true_eq, decide_eq_false_iff_not]
  have e6 : Int.toNat 6 = 6 := rfl
  try simp only [e6]
  refine ⟨fun h1 => ⟨by omega, fun h2 => ⟨by omega, by unfold lenOK at *; simp; omega, ?_⟩, fun h2 => ?_⟩, fun h1 => ?_⟩
  · have : 6 < s.length := by omega
    simp [hrefB, h2, this]
  · simp [hrefB, h2]
  · have : ¬ 6 < s.length := by omega
    simp [hrefB, this]
theorem ok30 : GOK1 Tryz.prog 30 g30 := GOK1.of (ent_all _ _ Tryz.func30 rfl) fun l c v H hg hc => by
  unfold g30 at hg
  split at hg <;> simp only [Option.some.injEq, Prod.mk.injEq, reduceCtorEq] at hg
  rename_i s
  obtain ⟨rfl, rfl⟩ := hg
  have h := vp30 s hc
  unfold q30 at h
  exact pureB (P := Tryz.prog) ent_all mixed (t := t3) tok3 (hs := noH) (k := 60) h (.cons (.str _) .nil) H
theorem ok31 : GOK1 Tryz.prog 31 g31 := GOK1.of (ent_all _ _ Tryz.func31 rfl) fun l c v H hg hc => by
  unfold g31 g30 at hg
  split at hg <;> simp only [Option.some.injEq, Prod.mk.injEq, reduceCtorEq] at hg
  rename_i s
  obtain ⟨rfl, rfl⟩ := hg
  have h := vp31 s hc
  unfold q31 at h
  exact pureB (P := Tryz.prog) ent_all mixed (t := t3) tok3 (hs := noH) (k := 60) h (.cons (.str _) .nil) H
end Go.Abs
