/- Written by a program: what the symbolic runs ask. -/
import Derived.Test.YtjmedgagpheofaaGreatDoorU0
set_option linter.unusedSectionVars false
set_option linter.unusedVariables false
set_option linter.unusedSimpArgs false
set_option linter.constructorNameAsVariable false
namespace Go.Abs
open Go.RowKit Go.Proofs
set_option maxRecDepth 1000000
-- vc29e: made 942 ms, stuck 3
theorem vc29e (code : Int) : q29e code = (
  bif decide (code ≥ (100 : Int)) then
    bif !decide (code ≤ (599 : Int)) then
      Wk (AV.tuple [AV.agg [AV.int IntKind.i64 (0 : Int), AV.nils, AV.nils], AV.int IntKind.i64 (2 : Int)])
        (bif codeB code then AV.tuple [AV.agg [AV.int IntKind.i64 code, AV.nils, AV.nils], AV.int IntKind.i64 (0 : Int)]
        else AV.tuple [AV.agg [AV.int IntKind.i64 (0 : Int), AV.nils, AV.nils], AV.int IntKind.i64 (2 : Int)])
    else
      i64B code ∧
        (9 : Nat) + List.length (Lib.itoa code) ≤ (9223372036854775807 : Nat) ∧
          i64B (0 : Int) ∧
            (17 : Nat) ≤ (9223372036854775807 : Nat) ∧
              (shortOK ([(72 : UInt8), (84 : UInt8), (84 : UInt8), (80 : UInt8), (47 : UInt8), (49 : UInt8), (46 : UInt8), (49 : UInt8), (32 : UInt8)] ++ Lib.itoa code) ∧
                  (0 : Nat) < List.length ([(72 : UInt8), (84 : UInt8), (84 : UInt8), (80 : UInt8), (47 : UInt8), (49 : UInt8), (46 : UInt8), (49 : UInt8), (32 : UInt8)] ++ Lib.itoa code) ∧
                    shortOK
                      [(99 : UInt8), (111 : UInt8), (110 : UInt8), (116 : UInt8), (101 : UInt8), (110 : UInt8), (116 : UInt8), (45 : UInt8), (108 : UInt8), (101 : UInt8), (110 : UInt8), (103 : UInt8), (116 : UInt8),
                        (104 : UInt8), (58 : UInt8), (32 : UInt8), (48 : UInt8)]) ∧
                (0 : Nat) <
                    List.length
                      (bytesA
                        (laidS ([(72 : UInt8), (84 : UInt8), (84 : UInt8), (80 : UInt8), (47 : UInt8), (49 : UInt8), (46 : UInt8), (49 : UInt8), (32 : UInt8)] ++ Lib.itoa code) []
                          [(99 : UInt8), (111 : UInt8), (110 : UInt8), (116 : UInt8), (101 : UInt8), (110 : UInt8), (116 : UInt8), (45 : UInt8), (108 : UInt8), (101 : UInt8), (110 : UInt8), (103 : UInt8), (116 : UInt8),
                            (104 : UInt8), (58 : UInt8), (32 : UInt8), (48 : UInt8)])) ∧
                  Wk (AV.tuple [AV.agg [AV.int IntKind.i64 code, AV.nils, AV.nils], AV.int IntKind.i64 (0 : Int)])
                    (bif codeB code then AV.tuple [AV.agg [AV.int IntKind.i64 code, AV.nils, AV.nils], AV.int IntKind.i64 (0 : Int)]
                    else AV.tuple [AV.agg [AV.int IntKind.i64 (0 : Int), AV.nils, AV.nils], AV.int IntKind.i64 (2 : Int)])
  else
    Wk (AV.tuple [AV.agg [AV.int IntKind.i64 (0 : Int), AV.nils, AV.nils], AV.int IntKind.i64 (2 : Int)])
      (bif codeB code then AV.tuple [AV.agg [AV.int IntKind.i64 code, AV.nils, AV.nils], AV.int IntKind.i64 (0 : Int)]
      else AV.tuple [AV.agg [AV.int IntKind.i64 (0 : Int), AV.nils, AV.nils], AV.int IntKind.i64 (2 : Int)])) := by kernel_rfl
-- vc29: made 1304 ms, stuck 5
theorem vc29 (code : Int) (a : UInt8) (m : Str) : q29 code a m = (
  (1 : Nat) + List.length (a :: m) ≤ (9223372036854775807 : Nat) ∧
    List.length ([(34 : UInt8)] ++ a :: m) + (1 : Nat) ≤ (9223372036854775807 : Nat) ∧
      bif decide (code ≥ (100 : Int)) then
        bif !decide (code ≤ (599 : Int)) then
          Wk (AV.tuple [AV.agg [AV.int IntKind.i64 (0 : Int), AV.nils, AV.nils], AV.int IntKind.i64 (2 : Int)])
            (bif shortB code (a :: m) then
              AV.tuple [AV.agg [AV.int IntKind.i64 code, AV.lst [AV.agg [AV.str [(101 : UInt8), (116 : UInt8), (97 : UInt8), (103 : UInt8)], AV.str (quoS (a :: m))]] none, AV.nils], AV.int IntKind.i64 (0 : Int)]
            else AV.tuple [AV.agg [AV.int IntKind.i64 (0 : Int), AV.nils, AV.nils], AV.int IntKind.i64 (2 : Int)])
        else
          lenOK ([(34 : UInt8)] ++ a :: m ++ [(34 : UInt8)]) ∧
            bif !valB ([(34 : UInt8)] ++ a :: m ++ [(34 : UInt8)]) then
              Wk (AV.tuple [AV.agg [AV.int IntKind.i64 (0 : Int), AV.nils, AV.nils], AV.int IntKind.i64 (2 : Int)])
                (bif shortB code (a :: m) then
                  AV.tuple [AV.agg [AV.int IntKind.i64 code, AV.lst [AV.agg [AV.str [(101 : UInt8), (116 : UInt8), (97 : UInt8), (103 : UInt8)], AV.str (quoS (a :: m))]] none, AV.nils], AV.int IntKind.i64 (0 : Int)]
                else AV.tuple [AV.agg [AV.int IntKind.i64 (0 : Int), AV.nils, AV.nils], AV.int IntKind.i64 (2 : Int)])
            else
              i64B code ∧
                (9 : Nat) + List.length (Lib.itoa code) ≤ (9223372036854775807 : Nat) ∧
                  i64B (0 : Int) ∧
                    (17 : Nat) ≤ (9223372036854775807 : Nat) ∧
                      (shortOK ([(72 : UInt8), (84 : UInt8), (84 : UInt8), (80 : UInt8), (47 : UInt8), (49 : UInt8), (46 : UInt8), (49 : UInt8), (32 : UInt8)] ++ Lib.itoa code) ∧
                          (0 : Nat) < List.length ([(72 : UInt8), (84 : UInt8), (84 : UInt8), (80 : UInt8), (47 : UInt8), (49 : UInt8), (46 : UInt8), (49 : UInt8), (32 : UInt8)] ++ Lib.itoa code) ∧
                            shortOK
                                [(99 : UInt8), (111 : UInt8), (110 : UInt8), (116 : UInt8), (101 : UInt8), (110 : UInt8), (116 : UInt8), (45 : UInt8), (108 : UInt8), (101 : UInt8), (110 : UInt8), (103 : UInt8),
                                  (116 : UInt8), (104 : UInt8), (58 : UInt8), (32 : UInt8), (48 : UInt8)] ∧
                              shortOK [(101 : UInt8), (116 : UInt8), (97 : UInt8), (103 : UInt8)] ∧ shortOK ([(34 : UInt8)] ++ a :: m ++ [(34 : UInt8)])) ∧
                        (0 : Nat) <
                            List.length
                              (bytesA
                                (laidS ([(72 : UInt8), (84 : UInt8), (84 : UInt8), (80 : UInt8), (47 : UInt8), (49 : UInt8), (46 : UInt8), (49 : UInt8), (32 : UInt8)] ++ Lib.itoa code)
                                  [([(101 : UInt8), (116 : UInt8), (97 : UInt8), (103 : UInt8)], [(34 : UInt8)] ++ a :: m ++ [(34 : UInt8)])]
                                  [(99 : UInt8), (111 : UInt8), (110 : UInt8), (116 : UInt8), (101 : UInt8), (110 : UInt8), (116 : UInt8), (45 : UInt8), (108 : UInt8), (101 : UInt8), (110 : UInt8), (103 : UInt8),
                                    (116 : UInt8), (104 : UInt8), (58 : UInt8), (32 : UInt8), (48 : UInt8)])) ∧
                          lenOK (a :: m) ∧
                            bif !markB (a :: m) then
                              Wk (AV.tuple [AV.agg [AV.int IntKind.i64 (0 : Int), AV.nils, AV.nils], AV.int IntKind.i64 (2 : Int)])
                                (bif shortB code (a :: m) then
                                  AV.tuple
                                    [AV.agg [AV.int IntKind.i64 code, AV.lst [AV.agg [AV.str [(101 : UInt8), (116 : UInt8), (97 : UInt8), (103 : UInt8)], AV.str (quoS (a :: m))]] none, AV.nils],
                                      AV.int IntKind.i64 (0 : Int)]
                                else AV.tuple [AV.agg [AV.int IntKind.i64 (0 : Int), AV.nils, AV.nils], AV.int IntKind.i64 (2 : Int)])
                            else
                              Wk
                                (AV.tuple
                                  [AV.agg
                                      [AV.int IntKind.i64 code, AV.lst [AV.agg [AV.str [(101 : UInt8), (116 : UInt8), (97 : UInt8), (103 : UInt8)], AV.str ([(34 : UInt8)] ++ a :: m ++ [(34 : UInt8)])]] none, AV.nils],
                                    AV.int IntKind.i64 (0 : Int)])
                                (bif shortB code (a :: m) then
                                  AV.tuple
                                    [AV.agg [AV.int IntKind.i64 code, AV.lst [AV.agg [AV.str [(101 : UInt8), (116 : UInt8), (97 : UInt8), (103 : UInt8)], AV.str (quoS (a :: m))]] none, AV.nils],
                                      AV.int IntKind.i64 (0 : Int)]
                                else AV.tuple [AV.agg [AV.int IntKind.i64 (0 : Int), AV.nils, AV.nils], AV.int IntKind.i64 (2 : Int)])
      else
        Wk (AV.tuple [AV.agg [AV.int IntKind.i64 (0 : Int), AV.nils, AV.nils], AV.int IntKind.i64 (2 : Int)])
          (bif shortB code (a :: m) then
            AV.tuple [AV.agg [AV.int IntKind.i64 code, AV.lst [AV.agg [AV.str [(101 : UInt8), (116 : UInt8), (97 : UInt8), (103 : UInt8)], AV.str (quoS (a :: m))]] none, AV.nils], AV.int IntKind.i64 (0 : Int)]
          else AV.tuple [AV.agg [AV.int IntKind.i64 (0 : Int), AV.nils, AV.nils], AV.int IntKind.i64 (2 : Int)])) := by kernel_rfl
-- vc32e: made 234 ms, stuck 0
theorem vc32e (code : Int) : q32e code = (
  bif decide (code ≥ (100 : Int)) then bif decide (code ≤ (599 : Int)) then true = codeB code else false = codeB code else false = codeB code) := by kernel_rfl
-- vc32: made 284 ms, stuck 0
theorem vc32 (code : Int) (v : Str) : q32 code v = (
  bif decide (code ≥ (100 : Int)) then bif decide (code ≤ (599 : Int)) then lenOK v ∧ bif valB v then true = (codeB code && valB v) else false = (codeB code && valB v) else false = (codeB code && valB v)
  else false = (codeB code && valB v)) := by kernel_rfl
-- vc21e: made 241 ms, stuck 0
theorem vc21e (a : Int) (b : Int) : q21e a b = (
  bif a == b then true = (a == b) else false = (a == b)) := by kernel_rfl
-- vc21: made 877 ms, stuck 0
theorem vc21 (a : Int) (b : Int) (n : Str) (v : Str) (n' : Str) (v' : Str) : q21 a b n v n' v' = (
  bif a == b then
    ((0 : Int) ≤ (0 : Int) ∧ (0 : Nat) < List.length [AV.agg [AV.str n, AV.str v]] ∧ List.length [AV.str n, AV.str v] = (2 : Nat)) ∧
      ((0 : Int) ≤ (0 : Int) ∧ (0 : Nat) < List.length [AV.agg [AV.str n', AV.str v']] ∧ List.length [AV.str n', AV.str v'] = (2 : Nat)) ∧
        bif !(n == n' && v == v') then false = (a == b && (n == n' && v == v')) else true = (a == b && (n == n' && v == v'))
  else false = (a == b && (n == n' && v == v'))) := by kernel_rfl
-- vc27e: made 193 ms, stuck 1
theorem vc27e (a : Int) : q27e a = (
  Wk (AV.tuple [AV.str [], AV.bool false]) (AV.tuple [AV.str [], AV.bool false])) := by kernel_rfl
-- vc27: made 1167 ms, stuck 5
theorem vc27 (a : Int) (v : Str) : q27 a v = (
  ((0 : Int) ≤ (0 : Int) ∧
      (0 : Nat) < List.length [AV.agg [AV.str [(101 : UInt8), (116 : UInt8), (97 : UInt8), (103 : UInt8)], AV.str v]] ∧
        List.length [AV.str [(101 : UInt8), (116 : UInt8), (97 : UInt8), (103 : UInt8)], AV.str v] = (2 : Nat)) ∧
    bif decide ((↑(List.length v) : Int) ≥ (2 : Int)) then
      ((0 : Int) ≤ (0 : Int) ∧ (0 : Nat) < List.length v) ∧
        bif (↑(UInt8.toNat (List.getD v (0 : Nat) (0 : UInt8))) : Int) == (34 : Int) then
          ((0 : Int) ≤ IntKind.wrap IntKind.i64 ((↑(List.length v) : Int) - (1 : Int)) ∧ Int.toNat (IntKind.wrap IntKind.i64 ((↑(List.length v) : Int) - (1 : Int))) < List.length v) ∧
            bif !(↑(UInt8.toNat (List.getD v (Int.toNat (IntKind.wrap IntKind.i64 ((↑(List.length v) : Int) - (1 : Int)))) (0 : UInt8))) : Int) == (34 : Int) then
              Wk (AV.tuple [AV.str [], AV.bool false]) (AV.tuple [AV.str (inS v), AV.bool true])
            else
              ((0 : Int) ≤ (1 : Int) ∧ (1 : Int) ≤ IntKind.wrap IntKind.i64 ((↑(List.length v) : Int) - (1 : Int)) ∧ Int.toNat (IntKind.wrap IntKind.i64 ((↑(List.length v) : Int) - (1 : Int))) ≤ List.length v) ∧
                lenOK (List.take (Int.toNat (IntKind.wrap IntKind.i64 ((↑(List.length v) : Int) - (1 : Int))) - (1 : Nat)) (List.drop (1 : Nat) v)) ∧
                  bif !markB (List.take (Int.toNat (IntKind.wrap IntKind.i64 ((↑(List.length v) : Int) - (1 : Int))) - (1 : Nat)) (List.drop (1 : Nat) v)) then
                    Wk (AV.tuple [AV.str [], AV.bool false]) (AV.tuple [AV.str (inS v), AV.bool true])
                  else
                    Wk (AV.tuple [AV.str (List.take (Int.toNat (IntKind.wrap IntKind.i64 ((↑(List.length v) : Int) - (1 : Int))) - (1 : Nat)) (List.drop (1 : Nat) v)), AV.bool true])
                      (AV.tuple [AV.str (inS v), AV.bool true])
        else Wk (AV.tuple [AV.str [], AV.bool false]) (AV.tuple [AV.str (inS v), AV.bool true])
    else Wk (AV.tuple [AV.str [], AV.bool false]) (AV.tuple [AV.str (inS v), AV.bool true])) := by kernel_rfl
end Go.Abs
