/- Written by a program: what the symbolic runs ask. -/
import Derived.Test.YtjmedgagpheofaaGreatDoorS0
set_option linter.unusedSectionVars false
set_option linter.unusedVariables false
set_option linter.unusedSimpArgs false
set_option linter.constructorNameAsVariable false
namespace Go.Abs
open Go.RowKit Go.Proofs
set_option maxRecDepth 1000000
-- vc128: made 2275 ms, stuck 0
theorem vc128 (i : Int) : q128 i = (
  bif decide (i ≥ (97 : Int)) then
    bif decide (i ≤ (122 : Int)) then true = plainZ i
    else
      bif decide (i ≥ (65 : Int)) then
        bif decide (i ≤ (90 : Int)) then true = plainZ i
        else
          bif decide (i ≥ (48 : Int)) then bif decide (i ≤ (57 : Int)) then true = plainZ i else bif i == (45 : Int) then true = plainZ i else bif i == (46 : Int) then true = plainZ i else (i == (95 : Int)) = plainZ i
          else bif i == (45 : Int) then true = plainZ i else bif i == (46 : Int) then true = plainZ i else (i == (95 : Int)) = plainZ i
      else
        bif decide (i ≥ (48 : Int)) then bif decide (i ≤ (57 : Int)) then true = plainZ i else bif i == (45 : Int) then true = plainZ i else bif i == (46 : Int) then true = plainZ i else (i == (95 : Int)) = plainZ i
        else bif i == (45 : Int) then true = plainZ i else bif i == (46 : Int) then true = plainZ i else (i == (95 : Int)) = plainZ i
  else
    bif decide (i ≥ (65 : Int)) then
      bif decide (i ≤ (90 : Int)) then true = plainZ i
      else
        bif decide (i ≥ (48 : Int)) then bif decide (i ≤ (57 : Int)) then true = plainZ i else bif i == (45 : Int) then true = plainZ i else bif i == (46 : Int) then true = plainZ i else (i == (95 : Int)) = plainZ i
        else bif i == (45 : Int) then true = plainZ i else bif i == (46 : Int) then true = plainZ i else (i == (95 : Int)) = plainZ i
    else
      bif decide (i ≥ (48 : Int)) then bif decide (i ≤ (57 : Int)) then true = plainZ i else bif i == (45 : Int) then true = plainZ i else bif i == (46 : Int) then true = plainZ i else (i == (95 : Int)) = plainZ i
      else bif i == (45 : Int) then true = plainZ i else bif i == (46 : Int) then true = plainZ i else (i == (95 : Int)) = plainZ i) := by kernel_rfl
-- vc129: made 230 ms, stuck 0
theorem vc129 (s : Str) : q129 s = (
  (∃ (x : Nat),
      (x ≤ List.length s ∧ plainS (List.take x s) = true) ∧
        measLt none (List.length s - x) ∧
          eqH [] [] ∧
            AV.func (Fn.func (128 : FuncId)) [] = AV.func (Fn.func (128 : FuncId)) [] ∧
              AV.lst (bytesA s) none = AV.lst (bytesA s) none ∧
                AV.int IntKind.i64 (↑(List.length (bytesA s)) : Int) = AV.int IntKind.i64 (↑(List.length s) : Int) ∧ AV.int IntKind.i64 (0 : Int) = AV.int IntKind.i64 (↑x : Int) ∧ True) ∧
    ∀ (x : Nat),
      x ≤ List.length s ∧ plainS (List.take x s) = true →
        bif decide ((↑x : Int) < (↑(List.length s) : Int)) then
          ((0 : Int) ≤ (↑x : Int) ∧ Int.toNat (↑x : Int) < List.length (bytesA s) ∧ List.length (AV.cells (List.getD (bytesA s) (Int.toNat (↑x : Int)) AV.nils)) = (1 : Nat)) ∧
            AV.iptr (AV.cells (List.getD (bytesA s) (Int.toNat (↑x : Int)) AV.nils)) = AV.iptr [AV.int IntKind.u8 (↑(UInt8.toNat (List.getD s (Int.toNat (↑x : Int)) (0 : UInt8))) : Int)] ∧
              bif !plainZ (↑(UInt8.toNat (List.getD s (Int.toNat (↑x : Int)) (0 : UInt8))) : Int) then false = plainS s
              else
                eqD [] [] ∧
                  ∃ (x_1 : Nat),
                    (x_1 ≤ List.length s ∧ plainS (List.take x_1 s) = true) ∧
                      measLt (some (List.length s - x)) (List.length s - x_1) ∧
                        eqH [] [] ∧
                          AV.func (Fn.func (128 : FuncId)) [] = AV.func (Fn.func (128 : FuncId)) [] ∧
                            AV.lst (bytesA s) none = AV.lst (bytesA s) none ∧
                              AV.int IntKind.i64 (↑(List.length s) : Int) = AV.int IntKind.i64 (↑(List.length s) : Int) ∧
                                AV.int IntKind.i64 (IntKind.wrap IntKind.i64 ((↑x : Int) + (1 : Int))) = AV.int IntKind.i64 (↑x_1 : Int) ∧ True
        else true = plainS s) := by kernel_rfl
-- vc74: made 223 ms, stuck 0
theorem vc74 (s : Str) : q74 s = (
  bif decide ((↑(List.length s) : Int) ≥ (1 : Int)) then bif decide ((↑(List.length s) : Int) ≤ (64 : Int)) then lenOK s ∧ plainS s = markB s else false = markB s else false = markB s) := by kernel_rfl
-- vc33: made 1853 ms, stuck 0
theorem vc33 (s : Str) : q33 s = (
  (∃ (x : Nat), (x ≤ List.length s ∧ plainS (List.take x s) = true) ∧ measLt none (List.length s - x) ∧ eqH [] [] ∧ AV.str s = AV.str s ∧ AV.int IntKind.i64 (0 : Int) = AV.int IntKind.i64 (↑x : Int) ∧ True) ∧
    ∀ (x : Nat),
      x ≤ List.length s ∧ plainS (List.take x s) = true →
        bif decide ((↑x : Int) < (↑(List.length s) : Int)) then
          ((0 : Int) ≤ (↑x : Int) ∧ Int.toNat (↑x : Int) < List.length s) ∧
            (bif decide ((↑(UInt8.toNat (List.getD s (Int.toNat (↑x : Int)) (0 : UInt8))) : Int) < (48 : Int)) then
                bif decide ((↑(UInt8.toNat (List.getD s (Int.toNat (↑x : Int)) (0 : UInt8))) : Int) < (65 : Int)) then
                  bif decide ((↑(UInt8.toNat (List.getD s (Int.toNat (↑x : Int)) (0 : UInt8))) : Int) < (97 : Int)) then
                    bif (↑(UInt8.toNat (List.getD s (Int.toNat (↑x : Int)) (0 : UInt8))) : Int) != (45 : Int) then
                      bif (↑(UInt8.toNat (List.getD s (Int.toNat (↑x : Int)) (0 : UInt8))) : Int) != (46 : Int) then
                        eqD [] [] ∧
                          ∃ (x_1 : Unit),
                            True ∧
                              measLt none (0 : Nat) ∧
                                eqH [] [] ∧
                                  AV.str s = AV.str s ∧
                                    AV.int IntKind.i64 (↑x : Int) = AV.int IntKind.i64 (↑x : Int) ∧
                                      AV.bool ((↑(UInt8.toNat (List.getD s (Int.toNat (↑x : Int)) (0 : UInt8))) : Int) != (95 : Int)) =
                                          AV.bool !plainZ (↑(UInt8.toNat (List.getD s (Int.toNat (↑x : Int)) (0 : UInt8))) : Int) ∧
                                        True
                      else
                        eqD [] [] ∧
                          ∃ (x_1 : Unit),
                            True ∧
                              measLt none (0 : Nat) ∧
                                eqH [] [] ∧
                                  AV.str s = AV.str s ∧
                                    AV.int IntKind.i64 (↑x : Int) = AV.int IntKind.i64 (↑x : Int) ∧ AV.bool false = AV.bool !plainZ (↑(UInt8.toNat (List.getD s (Int.toNat (↑x : Int)) (0 : UInt8))) : Int) ∧ True
                    else
                      eqD [] [] ∧
                        ∃ (x_1 : Unit),
                          True ∧
                            measLt none (0 : Nat) ∧
                              eqH [] [] ∧
                                AV.str s = AV.str s ∧
                                  AV.int IntKind.i64 (↑x : Int) = AV.int IntKind.i64 (↑x : Int) ∧ AV.bool false = AV.bool !plainZ (↑(UInt8.toNat (List.getD s (Int.toNat (↑x : Int)) (0 : UInt8))) : Int) ∧ True
                  else
                    bif decide ((↑(UInt8.toNat (List.getD s (Int.toNat (↑x : Int)) (0 : UInt8))) : Int) > (122 : Int)) then
                      bif (↑(UInt8.toNat (List.getD s (Int.toNat (↑x : Int)) (0 : UInt8))) : Int) != (45 : Int) then
                        bif (↑(UInt8.toNat (List.getD s (Int.toNat (↑x : Int)) (0 : UInt8))) : Int) != (46 : Int) then
                          eqD [] [] ∧
                            ∃ (x_1 : Unit),
                              True ∧
                                measLt none (0 : Nat) ∧
                                  eqH [] [] ∧
                                    AV.str s = AV.str s ∧
                                      AV.int IntKind.i64 (↑x : Int) = AV.int IntKind.i64 (↑x : Int) ∧
                                        AV.bool ((↑(UInt8.toNat (List.getD s (Int.toNat (↑x : Int)) (0 : UInt8))) : Int) != (95 : Int)) =
                                            AV.bool !plainZ (↑(UInt8.toNat (List.getD s (Int.toNat (↑x : Int)) (0 : UInt8))) : Int) ∧
                                          True
                        else
                          eqD [] [] ∧
                            ∃ (x_1 : Unit),
                              True ∧
                                measLt none (0 : Nat) ∧
                                  eqH [] [] ∧
                                    AV.str s = AV.str s ∧
                                      AV.int IntKind.i64 (↑x : Int) = AV.int IntKind.i64 (↑x : Int) ∧ AV.bool false = AV.bool !plainZ (↑(UInt8.toNat (List.getD s (Int.toNat (↑x : Int)) (0 : UInt8))) : Int) ∧ True
                      else
                        eqD [] [] ∧
                          ∃ (x_1 : Unit),
                            True ∧
                              measLt none (0 : Nat) ∧
                                eqH [] [] ∧
                                  AV.str s = AV.str s ∧
                                    AV.int IntKind.i64 (↑x : Int) = AV.int IntKind.i64 (↑x : Int) ∧ AV.bool false = AV.bool !plainZ (↑(UInt8.toNat (List.getD s (Int.toNat (↑x : Int)) (0 : UInt8))) : Int) ∧ True
                    else
                      eqD [] [] ∧
                        ∃ (x_1 : Unit),
                          True ∧
                            measLt none (0 : Nat) ∧
                              eqH [] [] ∧
                                AV.str s = AV.str s ∧
                                  AV.int IntKind.i64 (↑x : Int) = AV.int IntKind.i64 (↑x : Int) ∧ AV.bool false = AV.bool !plainZ (↑(UInt8.toNat (List.getD s (Int.toNat (↑x : Int)) (0 : UInt8))) : Int) ∧ True
                else
                  bif decide ((↑(UInt8.toNat (List.getD s (Int.toNat (↑x : Int)) (0 : UInt8))) : Int) > (90 : Int)) then
                    bif decide ((↑(UInt8.toNat (List.getD s (Int.toNat (↑x : Int)) (0 : UInt8))) : Int) < (97 : Int)) then
                      bif (↑(UInt8.toNat (List.getD s (Int.toNat (↑x : Int)) (0 : UInt8))) : Int) != (45 : Int) then
                        bif (↑(UInt8.toNat (List.getD s (Int.toNat (↑x : Int)) (0 : UInt8))) : Int) != (46 : Int) then
                          eqD [] [] ∧
                            ∃ (x_1 : Unit),
                              True ∧
                                measLt none (0 : Nat) ∧
                                  eqH [] [] ∧
                                    AV.str s = AV.str s ∧
                                      AV.int IntKind.i64 (↑x : Int) = AV.int IntKind.i64 (↑x : Int) ∧
                                        AV.bool ((↑(UInt8.toNat (List.getD s (Int.toNat (↑x : Int)) (0 : UInt8))) : Int) != (95 : Int)) =
                                            AV.bool !plainZ (↑(UInt8.toNat (List.getD s (Int.toNat (↑x : Int)) (0 : UInt8))) : Int) ∧
                                          True
                        else
                          eqD [] [] ∧
                            ∃ (x_1 : Unit),
                              True ∧
                                measLt none (0 : Nat) ∧
                                  eqH [] [] ∧
                                    AV.str s = AV.str s ∧
                                      AV.int IntKind.i64 (↑x : Int) = AV.int IntKind.i64 (↑x : Int) ∧ AV.bool false = AV.bool !plainZ (↑(UInt8.toNat (List.getD s (Int.toNat (↑x : Int)) (0 : UInt8))) : Int) ∧ True
                      else
                        eqD [] [] ∧
                          ∃ (x_1 : Unit),
                            True ∧
                              measLt none (0 : Nat) ∧
                                eqH [] [] ∧
                                  AV.str s = AV.str s ∧
                                    AV.int IntKind.i64 (↑x : Int) = AV.int IntKind.i64 (↑x : Int) ∧ AV.bool false = AV.bool !plainZ (↑(UInt8.toNat (List.getD s (Int.toNat (↑x : Int)) (0 : UInt8))) : Int) ∧ True
                    else
                      bif decide ((↑(UInt8.toNat (List.getD s (Int.toNat (↑x : Int)) (0 : UInt8))) : Int) > (122 : Int)) then
                        bif (↑(UInt8.toNat (List.getD s (Int.toNat (↑x : Int)) (0 : UInt8))) : Int) != (45 : Int) then
                          bif (↑(UInt8.toNat (List.getD s (Int.toNat (↑x : Int)) (0 : UInt8))) : Int) != (46 : Int) then
                            eqD [] [] ∧
                              ∃ (x_1 : Unit),
                                True ∧
                                  measLt none (0 : Nat) ∧
                                    eqH [] [] ∧
                                      AV.str s = AV.str s ∧
                                        AV.int IntKind.i64 (↑x : Int) = AV.int IntKind.i64 (↑x : Int) ∧
                                          AV.bool ((↑(UInt8.toNat (List.getD s (Int.toNat (↑x : Int)) (0 : UInt8))) : Int) != (95 : Int)) =
                                              AV.bool !plainZ (↑(UInt8.toNat (List.getD s (Int.toNat (↑x : Int)) (0 : UInt8))) : Int) ∧
                                            True
                          else
                            eqD [] [] ∧
                              ∃ (x_1 : Unit),
                                True ∧
                                  measLt none (0 : Nat) ∧
                                    eqH [] [] ∧
                                      AV.str s = AV.str s ∧
                                        AV.int IntKind.i64 (↑x : Int) = AV.int IntKind.i64 (↑x : Int) ∧ AV.bool false = AV.bool !plainZ (↑(UInt8.toNat (List.getD s (Int.toNat (↑x : Int)) (0 : UInt8))) : Int) ∧ True
                        else
                          eqD [] [] ∧
                            ∃ (x_1 : Unit),
                              True ∧
                                measLt none (0 : Nat) ∧
                                  eqH [] [] ∧
                                    AV.str s = AV.str s ∧
                                      AV.int IntKind.i64 (↑x : Int) = AV.int IntKind.i64 (↑x : Int) ∧ AV.bool false = AV.bool !plainZ (↑(UInt8.toNat (List.getD s (Int.toNat (↑x : Int)) (0 : UInt8))) : Int) ∧ True
                      else
                        eqD [] [] ∧
                          ∃ (x_1 : Unit),
                            True ∧
                              measLt none (0 : Nat) ∧
                                eqH [] [] ∧
                                  AV.str s = AV.str s ∧
                                    AV.int IntKind.i64 (↑x : Int) = AV.int IntKind.i64 (↑x : Int) ∧ AV.bool false = AV.bool !plainZ (↑(UInt8.toNat (List.getD s (Int.toNat (↑x : Int)) (0 : UInt8))) : Int) ∧ True
                  else
                    eqD [] [] ∧
                      ∃ (x_1 : Unit),
                        True ∧
                          measLt none (0 : Nat) ∧
                            eqH [] [] ∧
                              AV.str s = AV.str s ∧
                                AV.int IntKind.i64 (↑x : Int) = AV.int IntKind.i64 (↑x : Int) ∧ AV.bool false = AV.bool !plainZ (↑(UInt8.toNat (List.getD s (Int.toNat (↑x : Int)) (0 : UInt8))) : Int) ∧ True
              else
                bif decide ((↑(UInt8.toNat (List.getD s (Int.toNat (↑x : Int)) (0 : UInt8))) : Int) > (57 : Int)) then
                  bif decide ((↑(UInt8.toNat (List.getD s (Int.toNat (↑x : Int)) (0 : UInt8))) : Int) < (65 : Int)) then
                    bif decide ((↑(UInt8.toNat (List.getD s (Int.toNat (↑x : Int)) (0 : UInt8))) : Int) < (97 : Int)) then
                      bif (↑(UInt8.toNat (List.getD s (Int.toNat (↑x : Int)) (0 : UInt8))) : Int) != (45 : Int) then
                        bif (↑(UInt8.toNat (List.getD s (Int.toNat (↑x : Int)) (0 : UInt8))) : Int) != (46 : Int) then
                          eqD [] [] ∧
                            ∃ (x_1 : Unit),
                              True ∧
                                measLt none (0 : Nat) ∧
                                  eqH [] [] ∧
                                    AV.str s = AV.str s ∧
                                      AV.int IntKind.i64 (↑x : Int) = AV.int IntKind.i64 (↑x : Int) ∧
                                        AV.bool ((↑(UInt8.toNat (List.getD s (Int.toNat (↑x : Int)) (0 : UInt8))) : Int) != (95 : Int)) =
                                            AV.bool !plainZ (↑(UInt8.toNat (List.getD s (Int.toNat (↑x : Int)) (0 : UInt8))) : Int) ∧
                                          True
                        else
                          eqD [] [] ∧
                            ∃ (x_1 : Unit),
                              True ∧
                                measLt none (0 : Nat) ∧
                                  eqH [] [] ∧
                                    AV.str s = AV.str s ∧
                                      AV.int IntKind.i64 (↑x : Int) = AV.int IntKind.i64 (↑x : Int) ∧ AV.bool false = AV.bool !plainZ (↑(UInt8.toNat (List.getD s (Int.toNat (↑x : Int)) (0 : UInt8))) : Int) ∧ True
                      else
                        eqD [] [] ∧
                          ∃ (x_1 : Unit),
                            True ∧
                              measLt none (0 : Nat) ∧
                                eqH [] [] ∧
                                  AV.str s = AV.str s ∧
                                    AV.int IntKind.i64 (↑x : Int) = AV.int IntKind.i64 (↑x : Int) ∧ AV.bool false = AV.bool !plainZ (↑(UInt8.toNat (List.getD s (Int.toNat (↑x : Int)) (0 : UInt8))) : Int) ∧ True
                    else
                      bif decide ((↑(UInt8.toNat (List.getD s (Int.toNat (↑x : Int)) (0 : UInt8))) : Int) > (122 : Int)) then
                        bif (↑(UInt8.toNat (List.getD s (Int.toNat (↑x : Int)) (0 : UInt8))) : Int) != (45 : Int) then
                          bif (↑(UInt8.toNat (List.getD s (Int.toNat (↑x : Int)) (0 : UInt8))) : Int) != (46 : Int) then
                            eqD [] [] ∧
                              ∃ (x_1 : Unit),
                                True ∧
                                  measLt none (0 : Nat) ∧
                                    eqH [] [] ∧
                                      AV.str s = AV.str s ∧
                                        AV.int IntKind.i64 (↑x : Int) = AV.int IntKind.i64 (↑x : Int) ∧
                                          AV.bool ((↑(UInt8.toNat (List.getD s (Int.toNat (↑x : Int)) (0 : UInt8))) : Int) != (95 : Int)) =
                                              AV.bool !plainZ (↑(UInt8.toNat (List.getD s (Int.toNat (↑x : Int)) (0 : UInt8))) : Int) ∧
                                            True
                          else
                            eqD [] [] ∧
                              ∃ (x_1 : Unit),
                                True ∧
                                  measLt none (0 : Nat) ∧
                                    eqH [] [] ∧
                                      AV.str s = AV.str s ∧
                                        AV.int IntKind.i64 (↑x : Int) = AV.int IntKind.i64 (↑x : Int) ∧ AV.bool false = AV.bool !plainZ (↑(UInt8.toNat (List.getD s (Int.toNat (↑x : Int)) (0 : UInt8))) : Int) ∧ True
                        else
                          eqD [] [] ∧
                            ∃ (x_1 : Unit),
                              True ∧
                                measLt none (0 : Nat) ∧
                                  eqH [] [] ∧
                                    AV.str s = AV.str s ∧
                                      AV.int IntKind.i64 (↑x : Int) = AV.int IntKind.i64 (↑x : Int) ∧ AV.bool false = AV.bool !plainZ (↑(UInt8.toNat (List.getD s (Int.toNat (↑x : Int)) (0 : UInt8))) : Int) ∧ True
                      else
                        eqD [] [] ∧
                          ∃ (x_1 : Unit),
                            True ∧
                              measLt none (0 : Nat) ∧
                                eqH [] [] ∧
                                  AV.str s = AV.str s ∧
                                    AV.int IntKind.i64 (↑x : Int) = AV.int IntKind.i64 (↑x : Int) ∧ AV.bool false = AV.bool !plainZ (↑(UInt8.toNat (List.getD s (Int.toNat (↑x : Int)) (0 : UInt8))) : Int) ∧ True
                  else
                    bif decide ((↑(UInt8.toNat (List.getD s (Int.toNat (↑x : Int)) (0 : UInt8))) : Int) > (90 : Int)) then
                      bif decide ((↑(UInt8.toNat (List.getD s (Int.toNat (↑x : Int)) (0 : UInt8))) : Int) < (97 : Int)) then
                        bif (↑(UInt8.toNat (List.getD s (Int.toNat (↑x : Int)) (0 : UInt8))) : Int) != (45 : Int) then
                          bif (↑(UInt8.toNat (List.getD s (Int.toNat (↑x : Int)) (0 : UInt8))) : Int) != (46 : Int) then
                            eqD [] [] ∧
                              ∃ (x_1 : Unit),
                                True ∧
                                  measLt none (0 : Nat) ∧
                                    eqH [] [] ∧
                                      AV.str s = AV.str s ∧
                                        AV.int IntKind.i64 (↑x : Int) = AV.int IntKind.i64 (↑x : Int) ∧
                                          AV.bool ((↑(UInt8.toNat (List.getD s (Int.toNat (↑x : Int)) (0 : UInt8))) : Int) != (95 : Int)) =
                                              AV.bool !plainZ (↑(UInt8.toNat (List.getD s (Int.toNat (↑x : Int)) (0 : UInt8))) : Int) ∧
                                            True
                          else
                            eqD [] [] ∧
                              ∃ (x_1 : Unit),
                                True ∧
                                  measLt none (0 : Nat) ∧
                                    eqH [] [] ∧
                                      AV.str s = AV.str s ∧
                                        AV.int IntKind.i64 (↑x : Int) = AV.int IntKind.i64 (↑x : Int) ∧ AV.bool false = AV.bool !plainZ (↑(UInt8.toNat (List.getD s (Int.toNat (↑x : Int)) (0 : UInt8))) : Int) ∧ True
                        else
                          eqD [] [] ∧
                            ∃ (x_1 : Unit),
                              True ∧
                                measLt none (0 : Nat) ∧
                                  eqH [] [] ∧
                                    AV.str s = AV.str s ∧
                                      AV.int IntKind.i64 (↑x : Int) = AV.int IntKind.i64 (↑x : Int) ∧ AV.bool false = AV.bool !plainZ (↑(UInt8.toNat (List.getD s (Int.toNat (↑x : Int)) (0 : UInt8))) : Int) ∧ True
                      else
                        bif decide ((↑(UInt8.toNat (List.getD s (Int.toNat (↑x : Int)) (0 : UInt8))) : Int) > (122 : Int)) then
                          bif (↑(UInt8.toNat (List.getD s (Int.toNat (↑x : Int)) (0 : UInt8))) : Int) != (45 : Int) then
                            bif (↑(UInt8.toNat (List.getD s (Int.toNat (↑x : Int)) (0 : UInt8))) : Int) != (46 : Int) then
                              eqD [] [] ∧
                                ∃ (x_1 : Unit),
                                  True ∧
                                    measLt none (0 : Nat) ∧
                                      eqH [] [] ∧
                                        AV.str s = AV.str s ∧
                                          AV.int IntKind.i64 (↑x : Int) = AV.int IntKind.i64 (↑x : Int) ∧
                                            AV.bool ((↑(UInt8.toNat (List.getD s (Int.toNat (↑x : Int)) (0 : UInt8))) : Int) != (95 : Int)) =
                                                AV.bool !plainZ (↑(UInt8.toNat (List.getD s (Int.toNat (↑x : Int)) (0 : UInt8))) : Int) ∧
                                              True
                            else
                              eqD [] [] ∧
                                ∃ (x_1 : Unit),
                                  True ∧
                                    measLt none (0 : Nat) ∧
                                      eqH [] [] ∧
                                        AV.str s = AV.str s ∧
                                          AV.int IntKind.i64 (↑x : Int) = AV.int IntKind.i64 (↑x : Int) ∧ AV.bool false = AV.bool !plainZ (↑(UInt8.toNat (List.getD s (Int.toNat (↑x : Int)) (0 : UInt8))) : Int) ∧ True
                          else
                            eqD [] [] ∧
                              ∃ (x_1 : Unit),
                                True ∧
                                  measLt none (0 : Nat) ∧
                                    eqH [] [] ∧
                                      AV.str s = AV.str s ∧
                                        AV.int IntKind.i64 (↑x : Int) = AV.int IntKind.i64 (↑x : Int) ∧ AV.bool false = AV.bool !plainZ (↑(UInt8.toNat (List.getD s (Int.toNat (↑x : Int)) (0 : UInt8))) : Int) ∧ True
                        else
                          eqD [] [] ∧
                            ∃ (x_1 : Unit),
                              True ∧
                                measLt none (0 : Nat) ∧
                                  eqH [] [] ∧
                                    AV.str s = AV.str s ∧
                                      AV.int IntKind.i64 (↑x : Int) = AV.int IntKind.i64 (↑x : Int) ∧ AV.bool false = AV.bool !plainZ (↑(UInt8.toNat (List.getD s (Int.toNat (↑x : Int)) (0 : UInt8))) : Int) ∧ True
                    else
                      eqD [] [] ∧
                        ∃ (x_1 : Unit),
                          True ∧
                            measLt none (0 : Nat) ∧
                              eqH [] [] ∧
                                AV.str s = AV.str s ∧
                                  AV.int IntKind.i64 (↑x : Int) = AV.int IntKind.i64 (↑x : Int) ∧ AV.bool false = AV.bool !plainZ (↑(UInt8.toNat (List.getD s (Int.toNat (↑x : Int)) (0 : UInt8))) : Int) ∧ True
                else
                  eqD [] [] ∧
                    ∃ (x_1 : Unit),
                      True ∧
                        measLt none (0 : Nat) ∧
                          eqH [] [] ∧
                            AV.str s = AV.str s ∧
                              AV.int IntKind.i64 (↑x : Int) = AV.int IntKind.i64 (↑x : Int) ∧ AV.bool false = AV.bool !plainZ (↑(UInt8.toNat (List.getD s (Int.toNat (↑x : Int)) (0 : UInt8))) : Int) ∧ True) ∧
              ∀ (x_1 : Unit),
                True →
                  bif !plainZ (↑(UInt8.toNat (List.getD s (Int.toNat (↑x : Int)) (0 : UInt8))) : Int) then false = markB s
                  else
                    eqD [] [] ∧
                      ∃ (x_2 : Nat),
                        (x_2 ≤ List.length s ∧ plainS (List.take x_2 s) = true) ∧
                          measLt (some (List.length s - x)) (List.length s - x_2) ∧
                            eqH [] [] ∧ AV.str s = AV.str s ∧ AV.int IntKind.i64 (IntKind.wrap IntKind.i64 ((↑x : Int) + (1 : Int))) = AV.int IntKind.i64 (↑x_2 : Int) ∧ True
        else bif decide ((↑(List.length s) : Int) ≥ (1 : Int)) then decide ((↑(List.length s) : Int) ≤ (64 : Int)) = markB s else false = markB s) := by kernel_rfl
-- vc30: made 442 ms, stuck 0
theorem vc30 (s : Str) : q30 s = (
  bif decide ((↑(List.length s) : Int) ≥ (↑(6 : Nat) : Int)) then
    ((0 : Int) ≤ (↑(6 : Nat) : Int) ∧ (6 : Nat) ≤ List.length s) ∧
      bif !List.take (6 : Nat) s == [(47 : UInt8), (98 : UInt8), (111 : UInt8), (111 : UInt8), (107 : UInt8), (47 : UInt8)] then false = hrefB s
      else ((0 : Int) ≤ (↑(6 : Nat) : Int) ∧ (6 : Nat) ≤ List.length s) ∧ lenOK (List.drop (6 : Nat) s) ∧ markB (List.drop (6 : Nat) s) = hrefB s
  else false = hrefB s) := by kernel_rfl
-- vc31: made 172 ms, stuck 0
theorem vc31 (s : Str) : q31 s = (
  bif decide ((↑(List.length s) : Int) > (6 : Int)) then
    ((0 : Int) ≤ (6 : Int) ∧ (6 : Nat) ≤ List.length s) ∧
      bif List.take (6 : Nat) s == [(47 : UInt8), (98 : UInt8), (111 : UInt8), (111 : UInt8), (107 : UInt8), (47 : UInt8)] then
        ((0 : Int) ≤ (6 : Int) ∧ (6 : Nat) ≤ List.length s) ∧ lenOK (List.drop (6 : Nat) s) ∧ markB (List.drop (6 : Nat) s) = hrefB s
      else false = hrefB s
  else false = hrefB s) := by kernel_rfl
end Go.Abs
