/- Written by a program: what the symbolic runs ask. -/
import Derived.Test.YtjmedgagpheofaaGreatDoorT0
set_option linter.unusedSectionVars false
set_option linter.unusedVariables false
set_option linter.unusedSimpArgs false
set_option linter.constructorNameAsVariable false
namespace Go.Abs
open Go.RowKit Go.Proofs
set_option maxRecDepth 1000000
-- vc179: made 115 ms, stuck 0
theorem vc179 (i : Int) : q179 i = (
  bif decide (i ≥ (32 : Int)) then decide (i ≤ (126 : Int)) = (decide ((32 : Int) ≤ i) && decide (i ≤ (126 : Int))) else false = (decide ((32 : Int) ≤ i) && decide (i ≤ (126 : Int)))) := by kernel_rfl
-- vc146: made 298 ms, stuck 0
theorem vc146 (s : Str) (lo : Int) (hi : Int) : q146 s lo hi = (
  (∃ (x : Nat),
      (x ≤ List.length s ∧ withinS lo hi (List.take x s) = true) ∧
        measLt none (List.length s - x) ∧
          eqH [] [] ∧ AV.str s = AV.str s ∧ AV.int IntKind.u8 lo = AV.int IntKind.u8 lo ∧ AV.int IntKind.u8 hi = AV.int IntKind.u8 hi ∧ AV.int IntKind.i64 (0 : Int) = AV.int IntKind.i64 (↑x : Int) ∧ True) ∧
    ∀ (x : Nat),
      x ≤ List.length s ∧ withinS lo hi (List.take x s) = true →
        bif decide ((↑x : Int) < (↑(List.length s) : Int)) then
          ((0 : Int) ≤ (↑x : Int) ∧ Int.toNat (↑x : Int) < List.length s) ∧
            bif decide ((↑(UInt8.toNat (List.getD s (Int.toNat (↑x : Int)) (0 : UInt8))) : Int) < lo) then false = withinS lo hi s
            else
              ((0 : Int) ≤ (↑x : Int) ∧ Int.toNat (↑x : Int) < List.length s) ∧
                bif decide ((↑(UInt8.toNat (List.getD s (Int.toNat (↑x : Int)) (0 : UInt8))) : Int) > hi) then false = withinS lo hi s
                else
                  eqD [] [] ∧
                    ∃ (x_1 : Nat),
                      (x_1 ≤ List.length s ∧ withinS lo hi (List.take x_1 s) = true) ∧
                        measLt (some (List.length s - x)) (List.length s - x_1) ∧
                          eqH [] [] ∧
                            AV.str s = AV.str s ∧
                              AV.int IntKind.u8 lo = AV.int IntKind.u8 lo ∧
                                AV.int IntKind.u8 hi = AV.int IntKind.u8 hi ∧ AV.int IntKind.i64 (IntKind.wrap IntKind.i64 ((↑x : Int) + (1 : Int))) = AV.int IntKind.i64 (↑x_1 : Int) ∧ True
        else true = withinS lo hi s) := by kernel_rfl
-- vc137: made 241 ms, stuck 0
theorem vc137 (s : Str) : q137 s = (
  (∃ (x : Nat),
      (x ≤ List.length s ∧ withinS (32 : Int) (126 : Int) (List.take x s) = true) ∧
        measLt none (List.length s - x) ∧
          eqH [] [] ∧
            AV.func (Fn.func (179 : FuncId)) [] = AV.func (Fn.func (179 : FuncId)) [] ∧
              AV.lst (bytesA s) none = AV.lst (bytesA s) none ∧
                AV.int IntKind.i64 (↑(List.length (bytesA s)) : Int) = AV.int IntKind.i64 (↑(List.length s) : Int) ∧ AV.int IntKind.i64 (0 : Int) = AV.int IntKind.i64 (↑x : Int) ∧ True) ∧
    ∀ (x : Nat),
      x ≤ List.length s ∧ withinS (32 : Int) (126 : Int) (List.take x s) = true →
        bif decide ((↑x : Int) < (↑(List.length s) : Int)) then
          ((0 : Int) ≤ (↑x : Int) ∧ Int.toNat (↑x : Int) < List.length (bytesA s) ∧ List.length (AV.cells (List.getD (bytesA s) (Int.toNat (↑x : Int)) AV.nils)) = (1 : Nat)) ∧
            AV.iptr (AV.cells (List.getD (bytesA s) (Int.toNat (↑x : Int)) AV.nils)) = AV.iptr [AV.int IntKind.u8 (↑(UInt8.toNat (List.getD s (Int.toNat (↑x : Int)) (0 : UInt8))) : Int)] ∧
              bif !(decide ((32 : Int) ≤ (↑(UInt8.toNat (List.getD s (Int.toNat (↑x : Int)) (0 : UInt8))) : Int)) && decide ((↑(UInt8.toNat (List.getD s (Int.toNat (↑x : Int)) (0 : UInt8))) : Int) ≤ (126 : Int))) then
                false = withinS (32 : Int) (126 : Int) s
              else
                eqD [] [] ∧
                  ∃ (x_1 : Nat),
                    (x_1 ≤ List.length s ∧ withinS (32 : Int) (126 : Int) (List.take x_1 s) = true) ∧
                      measLt (some (List.length s - x)) (List.length s - x_1) ∧
                        eqH [] [] ∧
                          AV.func (Fn.func (179 : FuncId)) [] = AV.func (Fn.func (179 : FuncId)) [] ∧
                            AV.lst (bytesA s) none = AV.lst (bytesA s) none ∧
                              AV.int IntKind.i64 (↑(List.length s) : Int) = AV.int IntKind.i64 (↑(List.length s) : Int) ∧
                                AV.int IntKind.i64 (IntKind.wrap IntKind.i64 ((↑x : Int) + (1 : Int))) = AV.int IntKind.i64 (↑x_1 : Int) ∧ True
        else true = withinS (32 : Int) (126 : Int) s) := by kernel_rfl
-- vc209: made 302 ms, stuck 2
theorem vc209 (s : Str) (c : Int) : q209 s c = (
  (∃ (x : Nat), (x ≤ List.length s ∧ trimLI c (List.drop x s) = trimLI c s) ∧ measLt none (List.length s - x) ∧ eqH [] [] ∧ AV.str s = AV.str (List.drop x s) ∧ AV.int IntKind.u8 c = AV.int IntKind.u8 c ∧ True) ∧
    ∀ (x : Nat),
      x ≤ List.length s ∧ trimLI c (List.drop x s) = trimLI c s →
        bif decide ((↑(List.length (List.drop x s)) : Int) > (0 : Int)) then
          ((0 : Int) ≤ (0 : Int) ∧ (0 : Nat) < List.length (List.drop x s)) ∧
            bif (↑(UInt8.toNat (List.getD (List.drop x s) (0 : Nat) (0 : UInt8))) : Int) == c then
              ((0 : Int) ≤ (1 : Int) ∧ (1 : Nat) ≤ List.length (List.drop x s)) ∧
                eqD [] [] ∧
                  ∃ (x_1 : Nat),
                    (x_1 ≤ List.length s ∧ trimLI c (List.drop x_1 s) = trimLI c s) ∧
                      measLt (some (List.length s - x)) (List.length s - x_1) ∧ eqH [] [] ∧ AV.str (List.drop (1 : Nat) (List.drop x s)) = AV.str (List.drop x_1 s) ∧ AV.int IntKind.u8 c = AV.int IntKind.u8 c ∧ True
            else Wk (AV.str (List.drop x s)) (AV.str (trimLI c s))
        else Wk (AV.str (List.drop x s)) (AV.str (trimLI c s))) := by kernel_rfl
-- vc210: made 309 ms, stuck 2
theorem vc210 (s : Str) (c : Int) : q210 s c = (
  (∃ (x : Nat), (x ≤ List.length s ∧ trimRI c (List.take x s) = trimRI c s) ∧ measLt none x ∧ eqH [] [] ∧ AV.str s = AV.str (List.take x s) ∧ AV.int IntKind.u8 c = AV.int IntKind.u8 c ∧ True) ∧
    ∀ (x : Nat),
      x ≤ List.length s ∧ trimRI c (List.take x s) = trimRI c s →
        bif decide ((↑(List.length (List.take x s)) : Int) > (0 : Int)) then
          ((0 : Int) ≤ IntKind.wrap IntKind.i64 ((↑(List.length (List.take x s)) : Int) - (1 : Int)) ∧
              Int.toNat (IntKind.wrap IntKind.i64 ((↑(List.length (List.take x s)) : Int) - (1 : Int))) < List.length (List.take x s)) ∧
            bif (↑(UInt8.toNat (List.getD (List.take x s) (Int.toNat (IntKind.wrap IntKind.i64 ((↑(List.length (List.take x s)) : Int) - (1 : Int)))) (0 : UInt8))) : Int) == c then
              ((0 : Int) ≤ IntKind.wrap IntKind.i64 ((↑(List.length (List.take x s)) : Int) - (1 : Int)) ∧
                  Int.toNat (IntKind.wrap IntKind.i64 ((↑(List.length (List.take x s)) : Int) - (1 : Int))) ≤ List.length (List.take x s)) ∧
                eqD [] [] ∧
                  ∃ (x_1 : Nat),
                    (x_1 ≤ List.length s ∧ trimRI c (List.take x_1 s) = trimRI c s) ∧
                      measLt (some x) x_1 ∧
                        eqH [] [] ∧
                          AV.str (List.take (Int.toNat (IntKind.wrap IntKind.i64 ((↑(List.length (List.take x s)) : Int) - (1 : Int)))) (List.take x s)) = AV.str (List.take x_1 s) ∧
                            AV.int IntKind.u8 c = AV.int IntKind.u8 c ∧ True
            else Wk (AV.str (List.take x s)) (AV.str (trimRI c s))
        else Wk (AV.str (List.take x s)) (AV.str (trimRI c s))) := by kernel_rfl
-- vc133: made 428 ms, stuck 0
theorem vc133 (s : Str) : q133 s = (
  bif decide ((↑(List.length s) : Int) ≤ (200 : Int)) then
    lenOK s ∧
      bif withinS (32 : Int) (126 : Int) s then
        bif s == [] then true = valB s
        else
          ((0 : Int) ≤ (0 : Int) ∧ (0 : Nat) < List.length s) ∧
            bif (↑(UInt8.toNat (List.getD s (0 : Nat) (0 : UInt8))) : Int) != (32 : Int) then
              ((0 : Int) ≤ IntKind.wrap IntKind.i64 ((↑(List.length s) : Int) - (1 : Int)) ∧ Int.toNat (IntKind.wrap IntKind.i64 ((↑(List.length s) : Int) - (1 : Int))) < List.length s) ∧
                ((↑(UInt8.toNat (List.getD s (Int.toNat (IntKind.wrap IntKind.i64 ((↑(List.length s) : Int) - (1 : Int)))) (0 : UInt8))) : Int) != (32 : Int)) = valB s
            else false = valB s
      else false = valB s
  else false = valB s) := by kernel_rfl
-- vc178: made 342 ms, stuck 2
theorem vc178 (s : Str) : q178 s = (
  bif s == [] then Wk (AV.str s) (AV.str (trimLI (32 : Int) (trimRI (32 : Int) s)))
  else
    ((0 : Int) ≤ (0 : Int) ∧ (0 : Nat) < (1 : Nat)) ∧
      ((0 : Int) ≤ (0 : Int) ∧ (0 : Nat) < (1 : Nat)) ∧
        lenOK s ∧
          ((0 : Int) ≤ (0 : Int) ∧ (0 : Nat) < (1 : Nat)) ∧
            lenOK (trimRI (↑(32 : Nat) : Int) s) ∧ Wk (AV.str (trimLI (↑(32 : Nat) : Int) (trimRI (↑(32 : Nat) : Int) s))) (AV.str (trimLI (32 : Int) (trimRI (32 : Int) s)))) := by kernel_rfl
-- vc141: made 187 ms, stuck 0
theorem vc141 (s : Str) : q141 s = (
  bif decide ((↑(List.length s) : Int) ≤ (200 : Int)) then lenOK s ∧ bif trimLI (32 : Int) (trimRI (32 : Int) s) == s then lenOK s ∧ withinS (32 : Int) (126 : Int) s = valB s else false = valB s else false = valB s) := by kernel_rfl
-- vc97n: made 82 ms, stuck 0
theorem vc97n : q97n = (
  decide ((0 : Int) ≤ (60000 : Int)) = true) := by kernel_rfl
-- vc97: made 2001 ms, stuck 0
theorem vc97 (v : Str) : q97 v = (
  ((0 : Int) ≤ (0 : Int) ∧
      (0 : Nat) < List.length [AV.agg [AV.str [(101 : UInt8), (116 : UInt8), (97 : UInt8), (103 : UInt8)], AV.str v]] ∧
        List.length [AV.str [(101 : UInt8), (116 : UInt8), (97 : UInt8), (103 : UInt8)], AV.str v] = (2 : Nat)) ∧
    lenOK v ∧ bif !valB v then false = valB v else decide ((0 : Int) ≤ (60000 : Int)) = valB v) := by kernel_rfl
-- vc76n: made 70 ms, stuck 0
theorem vc76n : q76n = (
  decide ((0 : Int) ≤ (16 : Int)) = true) := by kernel_rfl
-- vc76: made 438 ms, stuck 0
theorem vc76 (v : Str) : q76 v = (
  ((0 : Int) ≤ (0 : Int) ∧
      (0 : Nat) < List.length [AV.agg [AV.str [(101 : UInt8), (116 : UInt8), (97 : UInt8), (103 : UInt8)], AV.str v]] ∧
        List.length [AV.str [(101 : UInt8), (116 : UInt8), (97 : UInt8), (103 : UInt8)], AV.str v] = (2 : Nat)) ∧
    ((0 : Int) ≤ (0 : Int) ∧
        (0 : Nat) < List.length [AV.agg [AV.str [(101 : UInt8), (116 : UInt8), (97 : UInt8), (103 : UInt8)], AV.str v]] ∧
          List.length [AV.str [(101 : UInt8), (116 : UInt8), (97 : UInt8), (103 : UInt8)], AV.str v] = (2 : Nat)) ∧
      lenOK v ∧ bif !valB v then false = valB v else decide ((↑(List.length [AV.agg [AV.str [(101 : UInt8), (116 : UInt8), (97 : UInt8), (103 : UInt8)], AV.str v]]) : Int) ≤ (16 : Int)) = valB v) := by kernel_rfl
-- vc98n: made 827 ms, stuck 1
theorem vc98n (a : Str) (b : Str) : q98n a b = (
  ((cellsK (1 : Nat) [AV.str b, AV.str []] ∧ onesK [AV.str b, AV.str []]) ∧
      (1 : Nat) = List.length [AV.str a] ∧ cellsK (1 : Nat) [AV.str a] ∧ (List.length [AV.str a] + List.length [AV.str b, AV.str []]) * (16 : Nat) ≤ (140737488355328 : Nat)) ∧
    ((0 : Int) ≤ (0 : Int) ∧ (0 : Nat) < List.length [AV.str a, AV.str b, AV.str []] ∧ List.length [AV.str a] = (1 : Nat)) ∧
      ((0 : Nat) < List.length (bytesA a) ∧ List.length (bytesA a) * (1 : Nat) ≤ (140737488355328 : Nat)) ∧
        ((cellsK (1 : Nat) [AV.int IntKind.u8 (13 : Int), AV.int IntKind.u8 (10 : Int)] ∧ onesK [AV.int IntKind.u8 (13 : Int), AV.int IntKind.u8 (10 : Int)]) ∧
            List.length (bytesA a) = List.length (bytesA a) ∧ cellsK (1 : Nat) (bytesA a) ∧ (List.length (bytesA a) + (2 : Nat)) * (1 : Nat) ≤ (140737488355328 : Nat)) ∧
          ((0 : Int) ≤ IntKind.wrap IntKind.i64 ((0 : Int) + (1 : Int)) ∧ (1 : Nat) < List.length [AV.str a, AV.str b, AV.str []] ∧ List.length [AV.str b] = (1 : Nat)) ∧
            (List.length (bytesA a) + (2 : Nat) = List.length (bytesA a ++ [AV.int IntKind.u8 (13 : Int), AV.int IntKind.u8 (10 : Int)]) ∧
                cellsK (1 : Nat) (bytesA a ++ [AV.int IntKind.u8 (13 : Int), AV.int IntKind.u8 (10 : Int)]) ∧
                  (List.length (bytesA a ++ [AV.int IntKind.u8 (13 : Int), AV.int IntKind.u8 (10 : Int)]) + List.length (bytesA b)) * (1 : Nat) ≤ (140737488355328 : Nat)) ∧
              ((cellsK (1 : Nat) [AV.int IntKind.u8 (13 : Int), AV.int IntKind.u8 (10 : Int)] ∧ onesK [AV.int IntKind.u8 (13 : Int), AV.int IntKind.u8 (10 : Int)]) ∧
                  List.length (bytesA a ++ [AV.int IntKind.u8 (13 : Int), AV.int IntKind.u8 (10 : Int)]) + List.length (bytesA b) =
                      List.length (bytesA a ++ [AV.int IntKind.u8 (13 : Int), AV.int IntKind.u8 (10 : Int)] ++ bytesA b) ∧
                    cellsK (1 : Nat) (bytesA a ++ [AV.int IntKind.u8 (13 : Int), AV.int IntKind.u8 (10 : Int)] ++ bytesA b) ∧
                      (List.length (bytesA a ++ [AV.int IntKind.u8 (13 : Int), AV.int IntKind.u8 (10 : Int)] ++ bytesA b) + (2 : Nat)) * (1 : Nat) ≤ (140737488355328 : Nat)) ∧
                ((0 : Int) ≤ IntKind.wrap IntKind.i64 (IntKind.wrap IntKind.i64 ((0 : Int) + (1 : Int)) + (1 : Int)) ∧ (2 : Nat) < List.length [AV.str a, AV.str b, AV.str []] ∧ List.length [AV.str []] = (1 : Nat)) ∧
                  (List.length (bytesA a ++ [AV.int IntKind.u8 (13 : Int), AV.int IntKind.u8 (10 : Int)] ++ bytesA b) + (2 : Nat) =
                        List.length (bytesA a ++ [AV.int IntKind.u8 (13 : Int), AV.int IntKind.u8 (10 : Int)] ++ bytesA b ++ [AV.int IntKind.u8 (13 : Int), AV.int IntKind.u8 (10 : Int)]) ∧
                      cellsK (1 : Nat) (bytesA a ++ [AV.int IntKind.u8 (13 : Int), AV.int IntKind.u8 (10 : Int)] ++ bytesA b ++ [AV.int IntKind.u8 (13 : Int), AV.int IntKind.u8 (10 : Int)]) ∧
                        (List.length (bytesA a ++ [AV.int IntKind.u8 (13 : Int), AV.int IntKind.u8 (10 : Int)] ++ bytesA b ++ [AV.int IntKind.u8 (13 : Int), AV.int IntKind.u8 (10 : Int)]) + (0 : Nat)) * (1 : Nat) ≤
                          (140737488355328 : Nat)) ∧
                    ((cellsK (1 : Nat) [AV.int IntKind.u8 (13 : Int), AV.int IntKind.u8 (10 : Int)] ∧ onesK [AV.int IntKind.u8 (13 : Int), AV.int IntKind.u8 (10 : Int)]) ∧
                        List.length (bytesA a ++ [AV.int IntKind.u8 (13 : Int), AV.int IntKind.u8 (10 : Int)] ++ bytesA b ++ [AV.int IntKind.u8 (13 : Int), AV.int IntKind.u8 (10 : Int)]) + (0 : Nat) =
                            List.length (bytesA a ++ [AV.int IntKind.u8 (13 : Int), AV.int IntKind.u8 (10 : Int)] ++ bytesA b ++ [AV.int IntKind.u8 (13 : Int), AV.int IntKind.u8 (10 : Int)] ++ []) ∧
                          cellsK (1 : Nat) (bytesA a ++ [AV.int IntKind.u8 (13 : Int), AV.int IntKind.u8 (10 : Int)] ++ bytesA b ++ [AV.int IntKind.u8 (13 : Int), AV.int IntKind.u8 (10 : Int)] ++ []) ∧
                            (List.length (bytesA a ++ [AV.int IntKind.u8 (13 : Int), AV.int IntKind.u8 (10 : Int)] ++ bytesA b ++ [AV.int IntKind.u8 (13 : Int), AV.int IntKind.u8 (10 : Int)] ++ []) + (2 : Nat)) *
                                (1 : Nat) ≤
                              (140737488355328 : Nat)) ∧
                      Wk
                        (AV.lst
                          (bytesA a ++ [AV.int IntKind.u8 (13 : Int), AV.int IntKind.u8 (10 : Int)] ++ bytesA b ++ [AV.int IntKind.u8 (13 : Int), AV.int IntKind.u8 (10 : Int)] ++ [] ++
                            [AV.int IntKind.u8 (13 : Int), AV.int IntKind.u8 (10 : Int)])
                          (some (List.length [AObj.tok (9 : Nat) (1 : Nat) (List.length [AV.str a] + List.length [AV.str b, AV.str []])])))
                        (AV.lst (bytesA (laidS a [] b)) none)) := by kernel_rfl
-- vc98: made 1349 ms, stuck 1
theorem vc98 (a : Str) (n : Str) (v : Str) (b : Str) : q98 a n v b = (
  ((0 : Int) ≤ (0 : Int) ∧ (0 : Nat) < List.length [AV.agg [AV.str n, AV.str v]] ∧ List.length [AV.str n, AV.str v] = (2 : Nat)) ∧
    List.length n + (2 : Nat) ≤ (9223372036854775807 : Nat) ∧
      List.length (n ++ [(58 : UInt8), (32 : UInt8)]) + List.length v ≤ (9223372036854775807 : Nat) ∧
        ((cellsK (1 : Nat) [AV.str (n ++ [(58 : UInt8), (32 : UInt8)] ++ v)] ∧ onesK [AV.str (n ++ [(58 : UInt8), (32 : UInt8)] ++ v)]) ∧
            (1 : Nat) = List.length [AV.str a] ∧ cellsK (1 : Nat) [AV.str a] ∧ (List.length [AV.str a] + List.length [AV.str (n ++ [(58 : UInt8), (32 : UInt8)] ++ v)]) * (16 : Nat) ≤ (140737488355328 : Nat)) ∧
          ((cellsK (1 : Nat) [AV.str b, AV.str []] ∧ onesK [AV.str b, AV.str []]) ∧
              List.length [AV.str a] + List.length [AV.str (n ++ [(58 : UInt8), (32 : UInt8)] ++ v)] = List.length [AV.str a, AV.str (n ++ [(58 : UInt8), (32 : UInt8)] ++ v)] ∧
                cellsK (1 : Nat) [AV.str a, AV.str (n ++ [(58 : UInt8), (32 : UInt8)] ++ v)] ∧
                  (List.length [AV.str a, AV.str (n ++ [(58 : UInt8), (32 : UInt8)] ++ v)] + List.length [AV.str b, AV.str []]) * (16 : Nat) ≤ (140737488355328 : Nat)) ∧
            ((0 : Int) ≤ (0 : Int) ∧ (0 : Nat) < List.length [AV.str a, AV.str (n ++ [(58 : UInt8), (32 : UInt8)] ++ v), AV.str b, AV.str []] ∧ List.length [AV.str a] = (1 : Nat)) ∧
              ((0 : Nat) < List.length (bytesA a) ∧ List.length (bytesA a) * (1 : Nat) ≤ (140737488355328 : Nat)) ∧
                ((cellsK (1 : Nat) [AV.int IntKind.u8 (13 : Int), AV.int IntKind.u8 (10 : Int)] ∧ onesK [AV.int IntKind.u8 (13 : Int), AV.int IntKind.u8 (10 : Int)]) ∧
                    List.length (bytesA a) = List.length (bytesA a) ∧ cellsK (1 : Nat) (bytesA a) ∧ (List.length (bytesA a) + (2 : Nat)) * (1 : Nat) ≤ (140737488355328 : Nat)) ∧
                  ((0 : Int) ≤ IntKind.wrap IntKind.i64 ((0 : Int) + (1 : Int)) ∧
                      (1 : Nat) < List.length [AV.str a, AV.str (n ++ [(58 : UInt8), (32 : UInt8)] ++ v), AV.str b, AV.str []] ∧ List.length [AV.str (n ++ [(58 : UInt8), (32 : UInt8)] ++ v)] = (1 : Nat)) ∧
                    (List.length (bytesA a) + (2 : Nat) = List.length (bytesA a ++ [AV.int IntKind.u8 (13 : Int), AV.int IntKind.u8 (10 : Int)]) ∧
                        cellsK (1 : Nat) (bytesA a ++ [AV.int IntKind.u8 (13 : Int), AV.int IntKind.u8 (10 : Int)]) ∧
                          (List.length (bytesA a ++ [AV.int IntKind.u8 (13 : Int), AV.int IntKind.u8 (10 : Int)]) + List.length (bytesA (n ++ [(58 : UInt8), (32 : UInt8)] ++ v))) * (1 : Nat) ≤ (140737488355328 : Nat)) ∧
                      ((cellsK (1 : Nat) [AV.int IntKind.u8 (13 : Int), AV.int IntKind.u8 (10 : Int)] ∧ onesK [AV.int IntKind.u8 (13 : Int), AV.int IntKind.u8 (10 : Int)]) ∧
                          List.length (bytesA a ++ [AV.int IntKind.u8 (13 : Int), AV.int IntKind.u8 (10 : Int)]) + List.length (bytesA (n ++ [(58 : UInt8), (32 : UInt8)] ++ v)) =
                              List.length (bytesA a ++ [AV.int IntKind.u8 (13 : Int), AV.int IntKind.u8 (10 : Int)] ++ bytesA (n ++ [(58 : UInt8), (32 : UInt8)] ++ v)) ∧
                            cellsK (1 : Nat) (bytesA a ++ [AV.int IntKind.u8 (13 : Int), AV.int IntKind.u8 (10 : Int)] ++ bytesA (n ++ [(58 : UInt8), (32 : UInt8)] ++ v)) ∧
                              (List.length (bytesA a ++ [AV.int IntKind.u8 (13 : Int), AV.int IntKind.u8 (10 : Int)] ++ bytesA (n ++ [(58 : UInt8), (32 : UInt8)] ++ v)) + (2 : Nat)) * (1 : Nat) ≤
                                (140737488355328 : Nat)) ∧
                        ((0 : Int) ≤ IntKind.wrap IntKind.i64 (IntKind.wrap IntKind.i64 ((0 : Int) + (1 : Int)) + (1 : Int)) ∧
                            (2 : Nat) < List.length [AV.str a, AV.str (n ++ [(58 : UInt8), (32 : UInt8)] ++ v), AV.str b, AV.str []] ∧ List.length [AV.str b] = (1 : Nat)) ∧
                          (List.length (bytesA a ++ [AV.int IntKind.u8 (13 : Int), AV.int IntKind.u8 (10 : Int)] ++ bytesA (n ++ [(58 : UInt8), (32 : UInt8)] ++ v)) + (2 : Nat) =
                                List.length
                                  (bytesA a ++ [AV.int IntKind.u8 (13 : Int), AV.int IntKind.u8 (10 : Int)] ++ bytesA (n ++ [(58 : UInt8), (32 : UInt8)] ++ v) ++
                                    [AV.int IntKind.u8 (13 : Int), AV.int IntKind.u8 (10 : Int)]) ∧
                              cellsK (1 : Nat)
                                  (bytesA a ++ [AV.int IntKind.u8 (13 : Int), AV.int IntKind.u8 (10 : Int)] ++ bytesA (n ++ [(58 : UInt8), (32 : UInt8)] ++ v) ++
                                    [AV.int IntKind.u8 (13 : Int), AV.int IntKind.u8 (10 : Int)]) ∧
                                (List.length
                                        (bytesA a ++ [AV.int IntKind.u8 (13 : Int), AV.int IntKind.u8 (10 : Int)] ++ bytesA (n ++ [(58 : UInt8), (32 : UInt8)] ++ v) ++
                                          [AV.int IntKind.u8 (13 : Int), AV.int IntKind.u8 (10 : Int)]) +
                                      List.length (bytesA b)) *
                                    (1 : Nat) ≤
                                  (140737488355328 : Nat)) ∧
                            ((cellsK (1 : Nat) [AV.int IntKind.u8 (13 : Int), AV.int IntKind.u8 (10 : Int)] ∧ onesK [AV.int IntKind.u8 (13 : Int), AV.int IntKind.u8 (10 : Int)]) ∧
                                List.length
                                        (bytesA a ++ [AV.int IntKind.u8 (13 : Int), AV.int IntKind.u8 (10 : Int)] ++ bytesA (n ++ [(58 : UInt8), (32 : UInt8)] ++ v) ++
                                          [AV.int IntKind.u8 (13 : Int), AV.int IntKind.u8 (10 : Int)]) +
                                      List.length (bytesA b) =
                                    List.length
                                      (bytesA a ++ [AV.int IntKind.u8 (13 : Int), AV.int IntKind.u8 (10 : Int)] ++ bytesA (n ++ [(58 : UInt8), (32 : UInt8)] ++ v) ++
                                          [AV.int IntKind.u8 (13 : Int), AV.int IntKind.u8 (10 : Int)] ++
                                        bytesA b) ∧
                                  cellsK (1 : Nat)
                                      (bytesA a ++ [AV.int IntKind.u8 (13 : Int), AV.int IntKind.u8 (10 : Int)] ++ bytesA (n ++ [(58 : UInt8), (32 : UInt8)] ++ v) ++
                                          [AV.int IntKind.u8 (13 : Int), AV.int IntKind.u8 (10 : Int)] ++
                                        bytesA b) ∧
                                    (List.length
                                            (bytesA a ++ [AV.int IntKind.u8 (13 : Int), AV.int IntKind.u8 (10 : Int)] ++ bytesA (n ++ [(58 : UInt8), (32 : UInt8)] ++ v) ++
                                                [AV.int IntKind.u8 (13 : Int), AV.int IntKind.u8 (10 : Int)] ++
                                              bytesA b) +
                                          (2 : Nat)) *
                                        (1 : Nat) ≤
                                      (140737488355328 : Nat)) ∧
                              ((0 : Int) ≤ IntKind.wrap IntKind.i64 (IntKind.wrap IntKind.i64 (IntKind.wrap IntKind.i64 ((0 : Int) + (1 : Int)) + (1 : Int)) + (1 : Int)) ∧
                                  (3 : Nat) < List.length [AV.str a, AV.str (n ++ [(58 : UInt8), (32 : UInt8)] ++ v), AV.str b, AV.str []] ∧ List.length [AV.str []] = (1 : Nat)) ∧
                                (List.length
                                          (bytesA a ++ [AV.int IntKind.u8 (13 : Int), AV.int IntKind.u8 (10 : Int)] ++ bytesA (n ++ [(58 : UInt8), (32 : UInt8)] ++ v) ++
                                              [AV.int IntKind.u8 (13 : Int), AV.int IntKind.u8 (10 : Int)] ++
                                            bytesA b) +
                                        (2 : Nat) =
                                      List.length
                                        (bytesA a ++ [AV.int IntKind.u8 (13 : Int), AV.int IntKind.u8 (10 : Int)] ++ bytesA (n ++ [(58 : UInt8), (32 : UInt8)] ++ v) ++
                                              [AV.int IntKind.u8 (13 : Int), AV.int IntKind.u8 (10 : Int)] ++
                                            bytesA b ++
                                          [AV.int IntKind.u8 (13 : Int), AV.int IntKind.u8 (10 : Int)]) ∧
                                    cellsK (1 : Nat)
                                        (bytesA a ++ [AV.int IntKind.u8 (13 : Int), AV.int IntKind.u8 (10 : Int)] ++ bytesA (n ++ [(58 : UInt8), (32 : UInt8)] ++ v) ++
                                              [AV.int IntKind.u8 (13 : Int), AV.int IntKind.u8 (10 : Int)] ++
                                            bytesA b ++
                                          [AV.int IntKind.u8 (13 : Int), AV.int IntKind.u8 (10 : Int)]) ∧
                                      (List.length
                                              (bytesA a ++ [AV.int IntKind.u8 (13 : Int), AV.int IntKind.u8 (10 : Int)] ++ bytesA (n ++ [(58 : UInt8), (32 : UInt8)] ++ v) ++
                                                    [AV.int IntKind.u8 (13 : Int), AV.int IntKind.u8 (10 : Int)] ++
                                                  bytesA b ++
                                                [AV.int IntKind.u8 (13 : Int), AV.int IntKind.u8 (10 : Int)]) +
                                            (0 : Nat)) *
                                          (1 : Nat) ≤
                                        (140737488355328 : Nat)) ∧
                                  ((cellsK (1 : Nat) [AV.int IntKind.u8 (13 : Int), AV.int IntKind.u8 (10 : Int)] ∧ onesK [AV.int IntKind.u8 (13 : Int), AV.int IntKind.u8 (10 : Int)]) ∧
                                      List.length
                                              (bytesA a ++ [AV.int IntKind.u8 (13 : Int), AV.int IntKind.u8 (10 : Int)] ++ bytesA (n ++ [(58 : UInt8), (32 : UInt8)] ++ v) ++
                                                    [AV.int IntKind.u8 (13 : Int), AV.int IntKind.u8 (10 : Int)] ++
                                                  bytesA b ++
                                                [AV.int IntKind.u8 (13 : Int), AV.int IntKind.u8 (10 : Int)]) +
                                            (0 : Nat) =
                                          List.length
                                            (bytesA a ++ [AV.int IntKind.u8 (13 : Int), AV.int IntKind.u8 (10 : Int)] ++ bytesA (n ++ [(58 : UInt8), (32 : UInt8)] ++ v) ++
                                                    [AV.int IntKind.u8 (13 : Int), AV.int IntKind.u8 (10 : Int)] ++
                                                  bytesA b ++
                                                [AV.int IntKind.u8 (13 : Int), AV.int IntKind.u8 (10 : Int)] ++
                                              []) ∧
                                        cellsK (1 : Nat)
                                            (bytesA a ++ [AV.int IntKind.u8 (13 : Int), AV.int IntKind.u8 (10 : Int)] ++ bytesA (n ++ [(58 : UInt8), (32 : UInt8)] ++ v) ++
                                                    [AV.int IntKind.u8 (13 : Int), AV.int IntKind.u8 (10 : Int)] ++
                                                  bytesA b ++
                                                [AV.int IntKind.u8 (13 : Int), AV.int IntKind.u8 (10 : Int)] ++
                                              []) ∧
                                          (List.length
                                                  (bytesA a ++ [AV.int IntKind.u8 (13 : Int), AV.int IntKind.u8 (10 : Int)] ++ bytesA (n ++ [(58 : UInt8), (32 : UInt8)] ++ v) ++
                                                          [AV.int IntKind.u8 (13 : Int), AV.int IntKind.u8 (10 : Int)] ++
                                                        bytesA b ++
                                                      [AV.int IntKind.u8 (13 : Int), AV.int IntKind.u8 (10 : Int)] ++
                                                    []) +
                                                (2 : Nat)) *
                                              (1 : Nat) ≤
                                            (140737488355328 : Nat)) ∧
                                    Wk
                                      (AV.lst
                                        (bytesA a ++ [AV.int IntKind.u8 (13 : Int), AV.int IntKind.u8 (10 : Int)] ++ bytesA (n ++ [(58 : UInt8), (32 : UInt8)] ++ v) ++
                                                  [AV.int IntKind.u8 (13 : Int), AV.int IntKind.u8 (10 : Int)] ++
                                                bytesA b ++
                                              [AV.int IntKind.u8 (13 : Int), AV.int IntKind.u8 (10 : Int)] ++
                                            [] ++
                                          [AV.int IntKind.u8 (13 : Int), AV.int IntKind.u8 (10 : Int)])
                                        (some
                                          (List.length
                                            [AObj.tok (9 : Nat) (1 : Nat) (List.length [AV.str a, AV.str (n ++ [(58 : UInt8), (32 : UInt8)] ++ v)] + List.length [AV.str b, AV.str []]),
                                              AObj.cells (75 : Nat) [AV.str n, AV.str v]])))
                                      (AV.lst (bytesA (laidS a [(n, v)] b)) none)) := by kernel_rfl
end Go.Abs
