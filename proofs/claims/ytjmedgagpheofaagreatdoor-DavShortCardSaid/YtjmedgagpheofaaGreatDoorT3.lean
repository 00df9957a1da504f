/- dav, http: short replies: values, heads, lines. -/
import Derived.Test.YtjmedgagpheofaaGreatDoorT2
set_option linter.unusedSectionVars false
set_option linter.unusedVariables false
set_option linter.unusedSimpArgs false
set_option linter.constructorNameAsVariable false
namespace Go.Abs
open Go.RowKit Go.Proofs
set_option maxRecDepth 100000

theorem dropWhile_len {p : UInt8 → Bool} : ∀ l : Str, (l.dropWhile p).length ≤ l.length
  | [] => by simp
  | a :: l => by
    rw [List.dropWhile_cons]
    have := dropWhile_len (p := p) l
    split
    · simp; omega
    · simp
theorem trimLI_len (c : Int) (s : Str) : (trimLI c s).length ≤ s.length := dropWhile_len s
theorem trimRI_len (c : Int) (s : Str) : (trimRI c s).length ≤ s.length := by
  have := dropWhile_len (p := fun x => (x.toNat : Int) == c) s.reverse
  simpa [trimRI] using this
theorem edge_trim (s : Str) : (trimLI 32 (trimRI 32 s) == s) = edgeB s := by
  cases s with
  | nil => rfl
  | cons a l =>
    have hsn : (a :: l) = (a :: l).take l.length ++ [(a :: l).getD l.length 0] := by
      have := take_snoc (s := a :: l) (n := l.length) (by simp)
      rw [← this, List.take_of_length_le (by simp)]
    have hlen : (a :: l).length - 1 = l.length := by simp
    have he : edgeB (a :: l) = (!(a.toNat == 32) && !(((a :: l).getD l.length 0).toNat == 32)) := by
      simp only [edgeB, List.isEmpty_cons, Bool.false_or, hlen, List.getD_cons_zero]
    rw [he]
    by_cases h2 : ((a :: l).getD l.length 0).toNat = 32
    · have e1 : trimRI 32 (a :: l) = trimRI 32 ((a :: l).take l.length) := by
        rw [hsn]
        rw [trimRI_snoc, if_pos (by rw [beq_iff_eq]; have := h2; omega)]
        congr 1
        simp
      have l1 := trimLI_len 32 (trimRI 32 (a :: l))
      have l2 := trimRI_len 32 ((a :: l).take l.length)
      rw [e1] at l1
      rw [e1, h2]
      simp only [beq_self_eq_true, Bool.not_true, Bool.and_false, beq_eq_false_iff_ne, ne_eq]
      intro h
      rw [h] at l1
      simp at l1 l2
      omega
    · have e1 : trimRI 32 (a :: l) = a :: l := by
        rw [hsn, trimRI_snoc, if_neg (by rw [beq_iff_eq]; omega)]
      have hb2 : (((a :: l).getD l.length 0).toNat == 32) = false := by simpa using h2
      rw [e1, hb2, trimLI_cons]
      by_cases h1 : a.toNat = 32
      · rw [if_pos (by rw [beq_iff_eq]; omega), h1]
        simp only [beq_self_eq_true, Bool.not_true, Bool.false_and, beq_eq_false_iff_ne, ne_eq]
        intro h
        have := trimLI_len 32 l
        rw [h] at this
        simp at this
        omega
      · rw [if_neg (by rw [beq_iff_eq]; omega)]
        have hb1 : (a.toNat == 32) = false := by simpa using h1
        simp [hb1]

theorem vp133 (s : Str) (hc : lenOK s) : q133 s := by
  rw [vc133]
  simp only [cond_bool, decide_eq_true_eq, decide_eq_false_iff_not]
  refine ⟨fun h1 => ⟨hc, fun h2 => ⟨fun h3 => ?_, fun h3 => ?_⟩, fun h2 => ?_⟩, fun h1 => ?_⟩
  · have h3 : s = [] := by simpa using h3
    subst h3
    rfl
  · have hpos : 0 < s.length := by
      rcases s with _ | ⟨a, l⟩
      · simp at h3
      · simp
    unfold lenOK at hc
    rw [wrapP hc hpos]
    have e1 : s.length ≤ 200 := by omega
    have e2 : s.isEmpty = false := by
      rcases s with _ | ⟨a, l⟩
      · simp at hpos
      · rfl
    have hv : valB s = (!((s.getD 0 0).toNat == 32) && !((s.getD (s.length - 1) 0).toNat == 32)) := by
      simp [valB, edgeB, e1, h2, e2]
    refine ⟨⟨by omega, by simpa using hpos⟩, fun h4 => ⟨⟨by omega, by simp; omega⟩, ?_⟩, fun h4 => ?_⟩
    · rw [hv]
      have h4 : ¬ (s.getD 0 0).toNat = 32 := by
        intro h
        simp only [bne_iff_ne, ne_eq] at h4
        exact h4 (by simpa using congrArg (fun n : Nat => (n : Int)) h)
      have hb : ((s.getD 0 0).toNat == 32) = false := by simpa using h4
      rw [hb]
      simp only [Int.toNat_natCast, Bool.not_false, Bool.true_and]
      rw [Bool.eq_iff_iff]
      simp only [bne_iff_ne, ne_eq, Bool.not_eq_true', beq_eq_false_iff_ne]
      omega
    · rw [hv]
      have h4 : (s.getD 0 0).toNat = 32 := by
        simp only [bne_eq_false_iff_eq] at h4
        have h5 : ((s.getD 0 0).toNat : Int) = 32 := by simpa using h4
        omega
      have hb : ((s.getD 0 0).toNat == 32) = true := by rw [h4]; rfl
      rw [hb]; rfl
  · simp [valB, h2]
  · have e1 : ¬ s.length ≤ 200 := by omega
    simp [valB, e1]
theorem ok133 : GOK1 Tryz.prog 133 g133 := GOK1.of (ent_all _ _ Tryz.func133 rfl) fun l c v H hg hc => by
  unfold g133 at hg
  split at hg <;> simp only [Option.some.injEq, Prod.mk.injEq, reduceCtorEq] at hg
  rename_i s
  obtain ⟨rfl, rfl⟩ := hg
  have h := vp133 s hc
  unfold q133 at h
  exact pureB (P := Tryz.prog) ent_all mixed (t := u2) uok2 (hs := noH) (k := 60) h (.cons (.str _) .nil) H
theorem vp178 (s : Str) (hc : lenOK s) : q178 s := by
  rw [vc178]
  simp only [cond_bool]
  refine ⟨fun h => ?_, fun h => ⟨by simp, by simp, hc, by simp, ?_, ?_⟩⟩
  · have : s = [] := by simpa using h
    subst this
    exact .refl _
  · have := trimRI_len 32 s
    unfold lenOK at *
    exact Nat.le_trans this hc
  · exact .refl _
theorem ok178 : GOK1 Tryz.prog 178 g178 := GOK1.of (ent_all _ _ Tryz.func178 rfl) fun l c v H hg hc => by
  unfold g178 at hg
  split at hg <;> simp only [Option.some.injEq, Prod.mk.injEq, reduceCtorEq] at hg
  rename_i s
  obtain ⟨rfl, rfl⟩ := hg
  have h := vp178 s hc
  unfold q178 at h
  exact pureW (P := Tryz.prog) ent_all mixed (t := u2) uok2 (hs := noH) (k := 60) h (.cons (.str _) (.cons (.str _) .nil)) (.str _) H
theorem uok3 : GOK Tryz.prog u3 := ⟨ok133, ok178, uok2⟩
theorem vp141 (s : Str) (hc : lenOK s) : q141 s := by
  rw [vc141]
  simp only [cond_bool, decide_eq_true_eq, decide_eq_false_iff_not]
  refine ⟨fun h1 => ⟨hc, fun h2 => ⟨hc, ?_⟩, fun h2 => ?_⟩, fun h1 => ?_⟩
  · rw [edge_trim] at h2
    have e1 : s.length ≤ 200 := by omega
    simp [valB, h2, e1]
  · rw [edge_trim] at h2
    simp [valB, h2]
  · have e1 : ¬ s.length ≤ 200 := by omega
    simp [valB, e1]
theorem ok141 : GOK1 Tryz.prog 141 g141 := GOK1.of (ent_all _ _ Tryz.func141 rfl) fun l c v H hg hc => by
  unfold g141 g133 at hg
  split at hg <;> simp only [Option.some.injEq, Prod.mk.injEq, reduceCtorEq] at hg
  rename_i s
  obtain ⟨rfl, rfl⟩ := hg
  have h := vp141 s hc
  unfold q141 at h
  exact pureB (P := Tryz.prog) ent_all mixed (t := u3) uok3 (hs := noH) (k := 60) h (.cons (.str _) .nil) H
theorem uok4 : GOK Tryz.prog u4 := ⟨ok141, uok3⟩
theorem lo_head1 (n v : Str) : Lo 0 (.lst [.agg [.str n, .str v]] none) := .lst (by
  simp only [List.flatMap_cons, List.flatMap_nil, AV.cells, List.append_nil]
  exact .cons (.str _) (.cons (.str _) .nil)) (by simp)
theorem lo_head (n v : Str) : LoL 0 [.lst [.agg [.str n, .str v]] none] := .cons (lo_head1 n v) .nil
theorem ok97 : GOK1 Tryz.prog 97 g97 := GOK1.of (ent_all _ _ Tryz.func97 rfl) fun l c v H hg hc => by
  unfold g97 at hg
  split at hg <;> simp only [Option.some.injEq, Prod.mk.injEq, reduceCtorEq] at hg
  · obtain ⟨rfl, rfl⟩ := hg
    have h : q97n := by rw [vc97n]; simp
    unfold q97n at h
    exact pureB (P := Tryz.prog) ent_all mixed (t := u4) uok4 (hs := noH) (k := 60) h (.cons .nils (.cons .nils .nil)) H
  · rename_i v
    obtain ⟨rfl, rfl⟩ := hg
    have h : q97 v := by
      rw [vc97]
      refine ⟨by simp, hc, ?_⟩
      cases valB v <;> simp
    unfold q97 at h
    exact pureB (P := Tryz.prog) ent_all mixed (t := u4) uok4 (hs := noH) (k := 60) h (.cons (lo_head1 _ _) (.cons .nils .nil)) H
theorem ok76 : GOK1 Tryz.prog 76 g76 := GOK1.of (ent_all _ _ Tryz.func76 rfl) fun l c v H hg hc => by
  unfold g76 at hg
  split at hg <;> simp only [Option.some.injEq, Prod.mk.injEq, reduceCtorEq] at hg
  · obtain ⟨rfl, rfl⟩ := hg
    have h : q76n := by rw [vc76n]; simp
    unfold q76n at h
    exact pureB (P := Tryz.prog) ent_all mixed (t := u4) uok4 (hs := noH) (k := 60) h (.cons .nils .nil) H
  · rename_i v
    obtain ⟨rfl, rfl⟩ := hg
    have h : q76 v := by
      rw [vc76]
      refine ⟨by simp, by simp, hc, ?_⟩
      cases valB v <;> simp
    unfold q76 at h
    exact pureB (P := Tryz.prog) ent_all mixed (t := u4) uok4 (hs := noH) (k := 60) h (lo_head _ _) H

@[simp] theorem bytesA_len (s : Str) : (bytesA s).length = s.length := by simp [bytesA]
theorem bytesA_append (s t : Str) : bytesA (s ++ t) = bytesA s ++ bytesA t := by simp [bytesA]
theorem wk_lst {xs ys : List AV} {tok : Option Nat} (h : xs = ys) : Wk (.lst xs tok) (.lst ys none) := by subst h; exact .lst (WkL.refl _)
theorem vp98n (a b : Str) (h1 : shortOK a) (h2 : 0 < a.length) (h3 : shortOK b) : q98n a b := by
  rw [vc98n]
  unfold shortOK at *
  simp only [cellsK_nil, cellsK_cons, cellsK_append, cellsK_bytes, onesK_nil, onesK_cons, onesK_append, AV.cells, AV.one, List.all_cons, List.all_nil, Bool.and_true, List.length_cons, List.length_nil, List.length_append, bytesA_len, true_and, and_true, IntKind.wrap_i64]
  (repeat' apply And.intro) <;> first | omega | (apply wk_lst; simp [laidS, lineS, bytesA])
theorem vp98 (a n v b : Str) (h1 : shortOK a) (h2 : 0 < a.length) (h3 : shortOK b) (h4 : shortOK n) (h5 : shortOK v) : q98 a n v b := by
  rw [vc98]
  unfold shortOK at *
  simp only [cellsK_nil, cellsK_cons, cellsK_append, cellsK_bytes, onesK_nil, onesK_cons, onesK_append, AV.cells, AV.one, List.all_cons, List.all_nil, Bool.and_true, List.length_cons, List.length_nil, List.length_append, bytesA_len, true_and, and_true, IntKind.wrap_i64]
  (repeat' apply And.intro) <;> first | omega | (apply wk_lst; simp [laidS, lineS, bytesA])
theorem bytesA_flat : ∀ s : Str, (bytesA s).flatMap AV.cells = bytesA s
  | [] => rfl
  | c :: l => by
    have h := bytesA_flat l
    simp only [bytesA] at h ⊢
    simp only [List.map_cons, List.flatMap_cons, h]
    rfl
theorem lo_bytesL : ∀ s : Str, LoL 0 (bytesA s)
  | [] => .nil
  | c :: l => .cons (.int _ _) (lo_bytesL l)
theorem lo_bytes (s : Str) : Lo 0 (.lst (bytesA s) none) := .lst (by rw [bytesA_flat]; exact lo_bytesL s) (by simp)
theorem ok98 : GOK1 Tryz.prog 98 g98 := GOK1.of (ent_all _ _ Tryz.func98 rfl) fun l c v H hg hc => by
  unfold g98 at hg
  split at hg <;> simp only [Option.some.injEq, Prod.mk.injEq, reduceCtorEq] at hg
  · rename_i a b
    obtain ⟨rfl, rfl⟩ := hg
    obtain ⟨h1, h2, h3⟩ := hc
    have h := vp98n a b h1 h2 h3
    unfold q98n at h
    exact pureW (P := Tryz.prog) ent_all mixed (t := u4) uok4 (hs := h98) (k := 60) h (.cons (.str _) (.cons .nils (.cons (.str _) .nil))) (lo_bytes _) H
  · rename_i a n v b
    obtain ⟨rfl, rfl⟩ := hg
    obtain ⟨h1, h2, h3, h4, h5⟩ := hc
    have h := vp98 a n v b h1 h2 h3 h4 h5
    unfold q98 at h
    exact pureW (P := Tryz.prog) ent_all mixed (t := u4) uok4 (hs := h98) (k := 60) h (.cons (.str _) (.cons (lo_head1 _ _) (.cons (.str _) .nil))) (lo_bytes _) H
theorem uok5 : GOK Tryz.prog u5 := ⟨ok97, ok76, ok98, uok4⟩
end Go.Abs
