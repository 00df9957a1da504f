/- The library's functions at this program. -/
import Derived.Test.YtjmedgagpheofaaGreatDoorXL
import Derived.Test.YtjmedgagpheofaaGreatDoorShelf
set_option linter.unusedSectionVars false
set_option linter.unusedVariables false
set_option linter.unusedSimpArgs false
set_option linter.constructorNameAsVariable false
namespace Go.Abs
open Go.RowKit Go.Proofs

theorem pow_glob : Tryz.prog.globalNamed "internal/strconv.uint64pow10" = some 1 := by kernel_rfl
theorem tab_pow : ∀ g, Tryz.prog.globalNamed "internal/strconv.uint64pow10" = some g → g < 2 := by
  intro g h
  have := Option.some.inj (pow_glob.symm.trans h)
  omega

noncomputable instance tabs : Tabs where
  n := 2
  ok := fun w => Lib.TabIs Tryz.prog w "internal/strconv.uint64pow10" .u64 Lib.pow10Tab
  stable := by
    intro w w' hk h
    unfold Lib.TabIs World.var? at h ⊢
    rw [← h]
    cases hg : Tryz.prog.globalNamed "internal/strconv.uint64pow10" with
    | none => rfl
    | some g =>
      simp only [Option.bind_some]
      rw [hk g (tab_pow g hg)]

theorem ent_all : EntAll Tryz.prog := entAll_of (by kernel_rfl)
theorem mixed : Tryz.prog.follows .mixedOrders = true := by kernel_rfl

theorem grow_drew (w : World) (k : Nat) (os : Array Obj) : Grow w (Go.Sort.grow (w.drewN k) os) := by
  refine ⟨?_, ?_, rfl, rfl, rfl⟩
  · show w.heap.size ≤ (w.heap ++ os).size
    simp
  · intro q hq
    show (w.heap ++ os)[q]? = _
    rw [Array.getElem?_append_left hq]

def isI64 (n : Int) : Bool := decide (-9223372036854775808 ≤ n) && decide (n ≤ 9223372036854775807)
noncomputable def eItoa : TabE Tryz.prog := TabE.pure 99 (ent_all _ _ Tryz.func99 rfl) (fun l => match l with
    | [.int .i64 n] => bif isI64 n then (match itoaF n with
      | some s => some (.str s)
      | none => none) else none
    | _ => none) (by
    intro l v H h
    split at h
    · rename_i n
      obtain ⟨hb, h⟩ := bif_some h
      split at h
      · rename_i s hs
        simp only [Option.some.injEq] at h; subst h
        simp only [isI64, Bool.and_eq_true, decide_eq_true_eq] at hb
        refine callsA_grow fun G W vs hv r => ?_
        obtain ⟨x, rfl, hx⟩ := hv.one_inv
        rw [hx.int_inv]
        refine ⟨.string (mkS s), .str s, ?_⟩
        refine (Tryz.strconv_Itoa n hb.1 hb.2 W r.tabOK).mono ?_
        rintro e w' ⟨rfl, k, os, rfl⟩
        exact ⟨by rw [itoaF_eq hs]; rfl, grow_drew W k os⟩
      · simp at h
    · simp at h)
noncomputable def eIndexByte : TabE Tryz.prog := TabE.pure 233 (ent_all _ _ Tryz.func233 rfl) (fun l => match l with
    | [.str l, .int .u8 c] => forceV (.int .i64 (Lib.indexByte l c.toNat.toUInt8))
    | _ => none) (by
    intro l v H h
    split at h
    · rename_i l c
      rw [← forceV_eq h]
      refine callsA_same fun G W vs hv r => ?_
      obtain ⟨x, y, rfl, hx, hy⟩ := hv.two_inv
      rw [hx.str_inv, hy.int_inv]
      exact ⟨_, .int _ _, Tryz.strings_IndexByte (mkS l) c W⟩
    · simp at h)
theorem bare205 : Bare Tryz.prog 205 Extern.AbiNoEscape.same := bare_of Tryz.func205 (by kernel_rfl) rfl (by kernel_rfl) ⟨_, by kernel_rfl, rfl⟩
theorem bareClone : Bare Tryz.prog 257 Extern.MapsClone.clone := bare_of Tryz.func257 (by kernel_rfl) rfl (by kernel_rfl) ⟨_, by kernel_rfl, rfl⟩
noncomputable def T : CallF := tabT [eItoa, eIndexByte, TabE.noescape 205 bare205, TabE.clone 257 bareClone]
theorem T_ok : CallHyp Tryz.prog T := tabT_ok _
end Go.Abs
