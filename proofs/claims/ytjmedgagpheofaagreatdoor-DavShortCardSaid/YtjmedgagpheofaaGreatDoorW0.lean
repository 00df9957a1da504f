/- For every code, mark and text, cardcaselaw13.DavShort returns true, and its arguments read as they read before: the row's statement, the listed package variables as the program's text lays them. -/
import Derived.Test.YtjmedgagpheofaaGreatDoorU4
import Derived.Test.YtjmedgagpheofaaGreatDoorRows
import Derived.ProofKit
import Derived.LaidMore
import Derived.Lay
import Derived.MakeChecks
import Derived.OpenShut
import Derived.Stop.Joined
import Derived.Lib.LaidTab
set_option linter.unusedSectionVars false
set_option linter.unusedVariables false
set_option linter.unusedSimpArgs false
set_option linter.constructorNameAsVariable false
namespace Go.Proofs.YtjmedgagpheofaaGreatDoor
open Go.ChangeShapes Go.WideShapes Go.ChangeAt Go.RowKit Go.Abs
set_option maxRecDepth 100000

theorem own : ownKnob Tryz.prog.godebug = none := by kernel_rfl
theorem pars : Tryz.f8.params = #[3, 9, 9] := rfl
theorem resTs : Tryz.f8.resultTypes = #[4] := rfl
theorem und3 : Tryz.prog.underlying 3 = some (.int .i64) := by kernel_rfl
theorem und4 : Tryz.prog.underlying 4 = some .bool := by kernel_rfl
theorem und9 : Tryz.prog.underlying 9 = some .string := by kernel_rfl
theorem pow_of_laid {W : World} (h : laidMetH Tryz.prog Rows.davShortRow.laid W) : Lib.TabIs Tryz.prog W "internal/strconv.uint64pow10" .u64 Lib.pow10Tab := by
  rw [MakeChecks.laidMetH_plain _ _ _ (by kernel_rfl)] at h
  obtain ⟨ps, ⟨g0, t0, cs0, f0, p0, q0, hg0, ht0, hv0, hd0, ⟨g1, t1, cs1, f1, p1, q1, hg1, ht1, hv1, hd1, ⟨g2, t2, cs2, f2, p2, q2, hg2, ht2, hv2, hd2, _, _⟩, _⟩, _⟩, _, _⟩ := h
  obtain rfl := Option.some.inj (Abs.pow_glob.symm.trans hg2)
  obtain rfl := Option.some.inj ((show (Tryz.prog.globals[1]?).map (·.type) = some 253 by kernel_rfl).symm.trans ht2)
  have e : (Rows.laid_internal_strconv_uint64pow10 : DataW Unit) = Lib.tabData .u64 Lib.pow10Tab := by kernel_rfl
  rw [e] at hd2
  unfold Lib.TabIs
  rw [hv2, ← Lib.cells_of_tab (n := 20) (e := 186) (k := .u64) (show Tryz.prog.underlying 253 = some (.array 20 186) by kernel_rfl) (show Tryz.prog.underlying 186 = some (.int .u64) by kernel_rfl) (show Tryz.prog.cellsOf 186 = 1 by kernel_rfl) (show Tryz.prog.cellsOf 253 = 20 by kernel_rfl) hd2]
theorem tab_size {W : World} (h : Lib.TabIs Tryz.prog W "internal/strconv.uint64pow10" .u64 Lib.pow10Tab) : 1 < W.heap.size := by
  unfold Lib.TabIs World.var? at h
  rw [Abs.pow_glob] at h
  simp only [Option.bind_some] at h
  rcases Nat.lt_or_ge 1 W.heap.size with h1 | h1
  · exact h1
  · rw [Array.getElem?_eq_none h1] at h
    cases h
/-- A world, seen from without: all its blocks stand. -/
def bareG (W : World) : Gh := { place := fun _ => none, imm := fun _ _ => none, own := fun _ _ => none, gen := fun _ _ => none, kept := fun b => b < W.heap.size, fixed := fun _ => False, w0 := W }
theorem bareR {W : World} (h : Lib.TabIs Tryz.prog W "internal/strconv.uint64pow10" .u64 Lib.pow10Tab) : Abs.R (bareG W) [] W where
  imm := fun b i v h => by cases h
  apart := fun b i _ => rfl
  own := fun b i h => absurd rfl h
  sep := fun b i i' p p' h => by cases h
  dom := fun q p h => by cases h
  domg := fun g n p h => by cases h
  below := Keep.refl _ _
  base := fun k hk => hk
  fixed := fun g h => False.elim h
  obj := fun q o h => by simp at h
  tab := ⟨fun k hk => Nat.lt_of_lt_of_le (show k < 2 from hk) (tab_size h), h⟩
theorem kept_of {W W' : World} (h : Keep (· < W.heap.size) W W') (may : MemPlace → Prop) : W.keptBut W' may := by
  refine ⟨h.os, h.output, fun i hi => ?_⟩
  rw [h.block i hi]
  cases W.heap[i]? with
  | none => rfl
  | some o => cases o <;> simp
theorem mkS_data (s : ByteArray) : Value.string s = .string (mkS s.data.toList) := by simp [mkS]
theorem walk (code : Int) (hc : i64B code) (mark s : ByteArray) (W : World) (hT : Lib.TabIs Tryz.prog W "internal/strconv.uint64pow10" .u64 Lib.pow10Tab) :
    Calls Tryz.prog 8 #[.int .i64 code, .string mark, .string s] W fun e W' => e = .returned (.bool true) ∧ Keep (· < W.heap.size) W W' := by
  have h := (short_true code mark.data.toList s.data.toList hc []).out (bareG W) W [.int .i64 code, .string mark, .string s]
    (.cons (.int _ _) (.cons (by rw [mkS_data mark]; exact .str _) (.cons (by rw [mkS_data s]; exact .str _) .nil))) (bareR hT)
  refine h.mono ?_
  rintro e W' ⟨ae, H', G', ⟨rfl, rfl⟩, re, r', hle⟩
  refine ⟨?_, ?_⟩
  · cases re with
    | ret hv => rw [hv.bool_inv]
  · have := r'.below
    rw [hle.kept, hle.w0] at this
    exact this
theorem laid_met (os : Os) (args : Array Value) : laidMetH Tryz.prog Rows.davShortRow.laid ((World.laidAll Tryz.prog os Rows.davShortRow.laid).forCall (fun _ _ => 0) ⟨#[], args, []⟩).memory := by
  rw [MakeChecks.laidMetH_plain _ _ _ (by kernel_rfl)]
  exact laidMet_laidAll args (by kernel_rfl) (by kernel_rfl)
end Go.Proofs.YtjmedgagpheofaaGreatDoor
