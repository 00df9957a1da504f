/- dav, http: short replies: what the functions answer. -/
import Derived.Test.YtjmedgagpheofaaGreatDoorT1
import Derived.Lib.ItoaLen
set_option linter.unusedSectionVars false
set_option linter.unusedVariables false
set_option linter.unusedSimpArgs false
set_option linter.constructorNameAsVariable false
namespace Go.Abs
open Go.RowKit Go.Proofs
set_option maxRecDepth 100000

theorem etag_facts : (∀ H, Pure Tryz.prog 140 [.str etagS] H (.bool true)) ∧ (∀ H, Pure Tryz.prog 131 [.str etagS] H (.bool true)) ∧ (∀ H, Pure Tryz.prog 100 [.str etagS] H (.str etagS)) ∧ (∀ H, Pure Tryz.prog 132 [.str etagS] H (.str etagS)) := by
  have r1 : runOK Tryz.prog T 1000 140 [.str etagS] (.bool true) = true := by kernel_rfl
  have r2 : runOK Tryz.prog T 1000 131 [.str etagS] (.bool true) = true := by kernel_rfl
  have r3 : runOK Tryz.prog T 1000 100 [.str etagS] (.str etagS) = true := by kernel_rfl
  have r4 : runOK Tryz.prog T 1000 132 [.str etagS] (.str etagS) = true := by kernel_rfl
  exact ⟨(fact_ok ent_all mixed T_ok r1).1, (fact_ok ent_all mixed T_ok r2).1, (fact_ok ent_all mixed T_ok r3).1, (fact_ok ent_all mixed T_ok r4).1⟩
theorem okEtagB {f : FuncId} (he : Ent Tryz.prog f) (h : ∀ H, Pure Tryz.prog f [.str etagS] H (.bool true)) : GOK1 Tryz.prog f gEtagB := GOK1.of he fun l c v H hg hc => by
  unfold gEtagB at hg
  split at hg <;> simp only [Option.some.injEq, Prod.mk.injEq, reduceCtorEq] at hg
  obtain ⟨rfl, rfl⟩ := hg
  exact h H
theorem okEtagS {f : FuncId} (he : Ent Tryz.prog f) (h : ∀ H, Pure Tryz.prog f [.str etagS] H (.str etagS)) : GOK1 Tryz.prog f gEtagS := GOK1.of he fun l c v H hg hc => by
  unfold gEtagS at hg
  split at hg <;> simp only [Option.some.injEq, Prod.mk.injEq, reduceCtorEq] at hg
  obtain ⟨rfl, rfl⟩ := hg
  exact h H
theorem ok99 : GOK1 Tryz.prog 99 g99 := GOK1.of (ent_all _ _ Tryz.func99 rfl) fun l c v H hg hc => by
  unfold g99 at hg
  split at hg <;> simp only [Option.some.injEq, Prod.mk.injEq, reduceCtorEq] at hg
  rename_i n
  obtain ⟨rfl, rfl⟩ := hg
  refine callsA_grow fun G W vs hv r => ?_
  obtain ⟨x, rfl, hx⟩ := hv.one_inv
  rw [hx.int_inv]
  refine ⟨.string (mkS (Lib.itoa n)), .str _, ?_⟩
  refine (Tryz.strconv_Itoa n hc.1 hc.2 W r.tabOK).mono ?_
  rintro e w' ⟨rfl, k, os, rfl⟩
  exact ⟨rfl, grow_drew W k os⟩
theorem uok0 : GOK Tryz.prog u0 := ⟨ok30, ok31, tok3⟩
theorem vp179 (i : Int) : q179 i := by
  rw [vc179]
  simp only [cond_bool, decide_eq_true_eq, decide_eq_false_iff_not]
  constructor
  · intro h; simp [h]
  · intro h; simp [h]
theorem ok179 : GOK1 Tryz.prog 179 g179 := GOK1.of (ent_all _ _ Tryz.func179 rfl) fun l c v H hg hc => by
  unfold g179 at hg
  split at hg <;> simp only [Option.some.injEq, Prod.mk.injEq, reduceCtorEq] at hg
  rename_i i
  obtain ⟨rfl, rfl⟩ := hg
  have h := vp179 i
  unfold q179 at h
  exact pureB (P := Tryz.prog) ent_all mixed (t := u0) uok0 (hs := noH) (k := 60) h (.cons (.int _ _) .nil) H
theorem uok1 : GOK Tryz.prog u1 := ⟨ok179, ok99, okEtagB (ent_all _ _ Tryz.func140 rfl) etag_facts.1, okEtagB (ent_all _ _ Tryz.func131 rfl) etag_facts.2.1, okEtagS (ent_all _ _ Tryz.func100 rfl) etag_facts.2.2.1, okEtagS (ent_all _ _ Tryz.func132 rfl) etag_facts.2.2.2, uok0⟩

theorem take_snoc {s : Str} {n : Nat} (h : n < s.length) : s.take (n + 1) = s.take n ++ [s.getD n 0] := by
  rw [List.take_add_one]
  simp [List.getD_eq_getElem?_getD, List.getElem?_eq_getElem h]
theorem drop_cons {s : Str} {n : Nat} (h : n < s.length) : s.drop n = s.getD n 0 :: s.drop (n + 1) := by
  rw [List.drop_eq_getElem_cons h]
  simp [List.getD_eq_getElem?_getD, List.getElem?_eq_getElem h]
theorem withinS_take {lo hi : Int} {s : Str} {n : Nat} (h : n < s.length) : withinS lo hi (s.take (n + 1)) = (withinS lo hi (s.take n) && (decide (lo ≤ ((s.getD n 0).toNat : Int)) && decide (((s.getD n 0).toNat : Int) ≤ hi))) := by
  rw [take_snoc h, withinS, withinS, List.all_append]
  simp
theorem withinS_not {lo hi : Int} {s : Str} {n : Nat} (h : n < s.length) (hp : ((s.getD n 0).toNat : Int) < lo ∨ hi < ((s.getD n 0).toNat : Int)) : withinS lo hi s = false := by
  rw [withinS, List.all_eq_false]
  refine ⟨s[n], List.getElem_mem h, ?_⟩
  have e : s.getD n 0 = s[n] := by simp [List.getD_eq_getElem?_getD, List.getElem?_eq_getElem h]
  rw [e] at hp
  simp only [Bool.and_eq_true, decide_eq_true_eq]
  omega
theorem vp146 (s : Str) (lo hi : Int) (hc : lenOK s) : q146 s lo hi := by
  rw [vc146]
  simp only [cond_bool, decide_eq_true_eq, decide_eq_false_iff_not, eqD_rfl, eqH_rfl, measLt_none, measLt_some, true_and, and_true]
  refine ⟨⟨0, ⟨Nat.zero_le _, by simp [withinS]⟩, by simp⟩, fun x hx => ⟨fun hlt => ⟨⟨by omega, by omega⟩, fun h1 => ?_, fun h1 => ⟨⟨by omega, by omega⟩, fun h2 => ?_, fun h2 => ?_⟩⟩, fun hlt => ?_⟩⟩
  · rw [withinS_not (n := x) (by omega) (.inl h1)]
  · rw [withinS_not (n := x) (by omega) (.inr h2)]
  · refine ⟨x + 1, ⟨by omega, ?_⟩, by omega, ?_⟩
    · rw [withinS_take (by omega), hx.2]
      simp only [Int.toNat_natCast] at h1 h2
      simp only [Bool.true_and, Bool.and_eq_true, decide_eq_true_eq]
      omega
    · rw [wrapS hc (by omega)]
  · have : x = s.length := by omega
    subst this
    simpa using hx.2.symm
theorem ok146 : GOK1 Tryz.prog 146 g146 := GOK1.of (ent_all _ _ Tryz.func146 rfl) fun l c v H hg hc => by
  unfold g146 at hg
  split at hg <;> simp only [Option.some.injEq, Prod.mk.injEq, reduceCtorEq] at hg
  rename_i s lo hi
  obtain ⟨rfl, rfl⟩ := hg
  have h := vp146 s lo hi hc
  unfold q146 at h
  exact pureB (P := Tryz.prog) ent_all mixed (t := u1) uok1 (hs := hs146) (k := 60) h (.cons (.str _) (.cons (.int _ _) (.cons (.int _ _) .nil))) H
theorem vp137 (s : Str) (hc : lenOK s) : q137 s := by
  rw [vc137]
  simp only [cond_bool, decide_eq_true_eq, decide_eq_false_iff_not, eqD_rfl, eqH_rfl, measLt_none, measLt_some, true_and, and_true]
  refine ⟨⟨0, ⟨Nat.zero_le _, by simp [withinS]⟩, by simp [bytesA]⟩, fun x hx => ⟨fun hlt => ⟨⟨by omega, by simp [bytesA]; omega, ?_⟩, ?_, ?_, ?_⟩, ?_⟩⟩
  · simp only [bytesA, List.getD_eq_getElem?_getD, List.getElem?_map, Int.toNat_natCast]
    rw [List.getElem?_eq_getElem (by omega)]
    rfl
  · simp only [bytesA, List.getD_eq_getElem?_getD, List.getElem?_map, Int.toNat_natCast]
    rw [List.getElem?_eq_getElem (by omega)]
    rfl
  · intro hp
    simp only [Int.toNat_natCast, Bool.not_eq_true', Bool.and_eq_false_iff, decide_eq_false_iff_not] at hp
    rw [withinS_not (n := x) (by omega) (by omega)]
  · intro hp
    simp only [Int.toNat_natCast, Bool.not_eq_false', Bool.and_eq_true, decide_eq_true_eq] at hp
    refine ⟨x + 1, ⟨by omega, ?_⟩, by omega, ?_⟩
    · rw [withinS_take (by omega), hx.2]
      simp only [Bool.true_and, Bool.and_eq_true, decide_eq_true_eq]
      omega
    · rw [wrapS hc (by omega)]
  · intro hlt
    have : x = s.length := by omega
    subst this
    simpa using hx.2.symm
theorem ok137 : GOK1 Tryz.prog 137 g137 := GOK1.of (ent_all _ _ Tryz.func137 rfl) fun l c v H hg hc => by
  unfold g137 at hg
  split at hg <;> simp only [Option.some.injEq, Prod.mk.injEq, reduceCtorEq] at hg
  rename_i s
  obtain ⟨rfl, rfl⟩ := hg
  have h := vp137 s hc
  unfold q137 at h
  exact pureB (P := Tryz.prog) ent_all mixed (t := u1) uok1 (hs := hs137) (k := 60) h (.cons (.str _) (.cons (.func .nil) .nil)) H

theorem trimRI_snoc (c : Int) (l : Str) (a : UInt8) : trimRI c (l ++ [a]) = if (a.toNat : Int) == c then trimRI c l else l ++ [a] := by
  simp only [trimRI, List.reverse_append, List.reverse_cons, List.reverse_nil, List.nil_append, List.singleton_append, List.dropWhile_cons]
  split <;> simp
theorem trimLI_cons (c : Int) (l : Str) (a : UInt8) : trimLI c (a :: l) = if (a.toNat : Int) == c then trimLI c l else a :: l := by
  simp only [trimLI, List.dropWhile_cons]
theorem vp209 (s : Str) (c : Int) (hc : lenOK s) : q209 s c := by
  rw [vc209]
  simp only [cond_bool, decide_eq_true_eq, decide_eq_false_iff_not, eqD_rfl, eqH_rfl, measLt_none, measLt_some, true_and, and_true, List.length_drop]
  refine ⟨⟨0, ⟨Nat.zero_le _, rfl⟩, rfl⟩, fun x hx => ⟨fun hlt => ⟨⟨by omega, by omega⟩, fun h1 => ⟨⟨by omega, by omega⟩, ?_⟩, fun h1 => ?_⟩, fun hlt => ?_⟩⟩
  · refine ⟨x + 1, ⟨by omega, ?_⟩, by omega, ?_⟩
    · rw [← hx.2, drop_cons (n := x) (by omega), trimLI_cons, if_pos]
      rw [drop_cons (n := x) (by omega)] at h1
      exact h1
    · rw [List.drop_drop]
  · rw [← hx.2, drop_cons (n := x) (by omega), trimLI_cons, if_neg]
    · exact .refl _
    · rw [drop_cons (n := x) (by omega)] at h1
      simpa using h1
  · have : s.drop x = [] := List.drop_eq_nil_of_le (by omega)
    rw [← hx.2, this]
    exact .refl _
theorem ok209 : GOK1 Tryz.prog 209 g209 := GOK1.of (ent_all _ _ Tryz.func209 rfl) fun l c v H hg hc => by
  unfold g209 at hg
  split at hg <;> simp only [Option.some.injEq, Prod.mk.injEq, reduceCtorEq] at hg
  rename_i s c
  obtain ⟨rfl, rfl⟩ := hg
  have h := vp209 s c hc
  unfold q209 at h
  exact pureW (P := Tryz.prog) ent_all mixed (t := u1) uok1 (hs := hs209) (k := 60) h (.cons (.str _) (.cons (.int _ _) .nil)) (.str _) H
theorem wrapP {n : Nat} (h : n ≤ 4611686018427387904) (h0 : 0 < n) : IntKind.wrap .i64 ((n : Int) - 1) = ((n - 1 : Nat) : Int) := by
  rw [IntKind.wrap_i64]
  omega
theorem vp210 (s : Str) (c : Int) (hc : lenOK s) : q210 s c := by
  rw [vc210]
  simp only [cond_bool, decide_eq_true_eq, decide_eq_false_iff_not, eqD_rfl, eqH_rfl, measLt_none, measLt_some, true_and, and_true]
  refine ⟨⟨s.length, ⟨Nat.le_refl _, by simp⟩, by simp⟩, fun x hx => ?_⟩
  have hl : (s.take x).length = x := by simp; omega
  rw [hl]
  unfold lenOK at hc
  refine ⟨fun hlt => ?_, fun hlt => ?_⟩
  · obtain ⟨y, rfl⟩ : ∃ y, x = y + 1 := ⟨x - 1, by omega⟩
    rw [wrapP (by omega) (by omega), Nat.add_sub_cancel]
    have ht := take_snoc (s := s) (n := y) (by omega)
    have hg : (s.take (y + 1)).getD y 0 = s.getD y 0 := by
      simp [List.getD_eq_getElem?_getD, List.getElem?_take]
    simp only [Int.toNat_natCast, hg]
    refine ⟨⟨by omega, by omega⟩, fun h1 => ⟨⟨by omega, by omega⟩, y, ⟨by omega, ?_⟩, by omega, ?_⟩, fun h1 => ?_⟩
    · rw [← hx.2, ht, trimRI_snoc, if_pos h1]
    · rw [List.take_take, Nat.min_eq_left (by omega)]
    · rw [← hx.2, ht, trimRI_snoc, if_neg (by simpa using h1)]
      exact .refl _
  · have : x = 0 := by omega
    subst this
    rw [← hx.2]
    exact .refl _
theorem ok210 : GOK1 Tryz.prog 210 g210 := GOK1.of (ent_all _ _ Tryz.func210 rfl) fun l c v H hg hc => by
  unfold g210 at hg
  split at hg <;> simp only [Option.some.injEq, Prod.mk.injEq, reduceCtorEq] at hg
  rename_i s c
  obtain ⟨rfl, rfl⟩ := hg
  have h := vp210 s c hc
  unfold q210 at h
  exact pureW (P := Tryz.prog) ent_all mixed (t := u1) uok1 (hs := hs210) (k := 60) h (.cons (.str _) (.cons (.int _ _) .nil)) (.str _) H
theorem uok2 : GOK Tryz.prog u2 := ⟨ok146, ok137, ok209, ok210, uok1⟩
end Go.Abs
