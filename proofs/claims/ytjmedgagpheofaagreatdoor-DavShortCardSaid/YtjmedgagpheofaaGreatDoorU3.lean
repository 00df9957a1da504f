/- Written by a program: what the symbolic runs ask. -/
import Derived.Test.YtjmedgagpheofaaGreatDoorU2
set_option linter.unusedSectionVars false
set_option linter.unusedVariables false
set_option linter.unusedSimpArgs false
set_option linter.constructorNameAsVariable false
namespace Go.Abs
open Go.RowKit Go.Proofs
set_option maxRecDepth 1000000
-- vc8e: made 728 ms, stuck 0
theorem vc8e (code : Int) (s : Str) : q8e code s = (
  bif decide ((↑(List.length s) : Int) > (300 : Int)) then true = true
  else
    i64B code ∧
      bif codeB code then
        lenOK s ∧ lenOK s ∧ bif !hrefB s == hrefB s then false = true else bif !codeB code then bif code == (0 : Int) then false = true else false = true else bif code == code then true = true else false = true
      else lenOK s ∧ lenOK s ∧ bif !hrefB s == hrefB s then false = true else bif !codeB code then true = true else false = true) := by kernel_rfl
-- vc8: made 1723 ms, stuck 0
theorem vc8 (code : Int) (a : UInt8) (m : Str) (s : Str) : q8 code a m s = (
  bif decide ((↑(List.length (a :: m)) : Int) > (300 : Int)) then true = true
  else
    bif decide ((↑(List.length s) : Int) > (300 : Int)) then true = true
    else
      (i64B code ∧ List.length (a :: m) ≤ (300 : Nat)) ∧
        bif shortB code (a :: m) then
          (1 : Nat) + List.length (a :: m) ≤ (9223372036854775807 : Nat) ∧
            List.length ([(34 : UInt8)] ++ a :: m) + (1 : Nat) ≤ (9223372036854775807 : Nat) ∧
              lenOK s ∧
                lenOK s ∧
                  bif !hrefB s == hrefB s then false = true
                  else
                    lenOK ([(34 : UInt8)] ++ a :: m ++ [(34 : UInt8)]) ∧
                      bif !(codeB code && valB ([(34 : UInt8)] ++ a :: m ++ [(34 : UInt8)])) then bif code == (0 : Int) then false = true else false = true
                      else
                        lenOK (a :: m) ∧
                          bif !markB (a :: m) then bif code == (0 : Int) then false = true else false = true
                          else
                            (lenOK (quoS (a :: m)) ∧ quoted (quoS (a :: m)) ∧ markB (inS (quoS (a :: m))) = true) ∧
                              bif code == code && (true && quoS (a :: m) == [(34 : UInt8)] ++ a :: m ++ [(34 : UInt8)]) then bif inS (quoS (a :: m)) == a :: m then true = true else false = true else false = true
        else
          (1 : Nat) + List.length (a :: m) ≤ (9223372036854775807 : Nat) ∧
            List.length ([(34 : UInt8)] ++ a :: m) + (1 : Nat) ≤ (9223372036854775807 : Nat) ∧
              lenOK s ∧
                lenOK s ∧
                  bif !hrefB s == hrefB s then false = true
                  else
                    lenOK ([(34 : UInt8)] ++ a :: m ++ [(34 : UInt8)]) ∧
                      bif !(codeB code && valB ([(34 : UInt8)] ++ a :: m ++ [(34 : UInt8)])) then true = true else lenOK (a :: m) ∧ bif !markB (a :: m) then true = true else false = true) := by kernel_rfl
end Go.Abs
