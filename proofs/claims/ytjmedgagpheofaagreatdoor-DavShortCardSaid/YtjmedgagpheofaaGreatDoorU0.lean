/- DavShort: what is asked of the symbolic runs. -/
import Derived.Test.YtjmedgagpheofaaGreatDoorT3
set_option linter.unusedSectionVars false
set_option linter.unusedVariables false
set_option linter.unusedSimpArgs false
set_option linter.constructorNameAsVariable false
namespace Go.Abs
open Go.RowKit Go.Proofs

def quoS (m : Str) : Str := [34] ++ m ++ [34]
def shortB (code : Int) (m : Str) : Bool := codeB code && (m == [] || (valB (quoS m) && markB m))
def headA (m : Str) : AV := .agg [.str [101, 116, 97, 103], .str (quoS m)]
def w0 : GT := u5
def q29e (code : Int) : Prop := vBody Tryz.prog noH (V Tryz.prog (tabD w0) (tabF w0) noH 80) 29 [.int .i64 code, .str []] [] (isW (cond (codeB code) (.tuple [.agg [.int .i64 code, .nils, .nils], .int .i64 0]) (.tuple [.agg [.int .i64 0, .nils, .nils], .int .i64 2])))
def q29 (code : Int) (a : UInt8) (m : Str) : Prop := vBody Tryz.prog noH (V Tryz.prog (tabD w0) (tabF w0) noH 80) 29 [.int .i64 code, .str (a :: m)] [] (isW (cond (shortB code (a :: m)) (.tuple [.agg [.int .i64 code, .lst [headA (a :: m)] none, .nils], .int .i64 0]) (.tuple [.agg [.int .i64 0, .nils, .nils], .int .i64 2])))
def g29 : GF2 := fun l => match l with
  | [.int .i64 code, .str []] => some (some (i64B code), codeB code, .tuple [.agg [.int .i64 code, .nils, .nils], .int .i64 0], .tuple [.agg [.int .i64 0, .nils, .nils], .int .i64 2])
  | [.int .i64 code, .str (a :: m)] => some (some (i64B code ∧ (a :: m).length ≤ 300), shortB code (a :: m), .tuple [.agg [.int .i64 code, .lst [headA (a :: m)] none, .nils], .int .i64 0], .tuple [.agg [.int .i64 0, .nils, .nils], .int .i64 2])
  | _ => none
def g32 : GF := fun l => match l with
  | [.agg [.int .i64 code, .nils, .nils]] => some (none, .bool (codeB code))
  | [.agg [.int .i64 code, .lst [.agg [.str [101, 116, 97, 103], .str v]] none, .nils]] => some (some (lenOK v), .bool (codeB code && valB v))
  | _ => none
def q32e (code : Int) : Prop := vBody Tryz.prog noH (V Tryz.prog (tabD w0) (tabF w0) noH 80) 32 [.agg [.int .i64 code, .nils, .nils]] [] (isB fun b => b = codeB code)
def q32 (code : Int) (v : Str) : Prop := vBody Tryz.prog noH (V Tryz.prog (tabD w0) (tabF w0) noH 80) 32 [.agg [.int .i64 code, .lst [.agg [.str [101, 116, 97, 103], .str v]] none, .nils]] [] (isB fun b => b = (codeB code && valB v))
/-- The same reply, of none or of one head. -/
def g21 : GF := fun l => match l with
  | [.agg [.int .i64 a, .nils, .nils], .agg [.int .i64 b, .nils, .nils]] => some (none, .bool (a == b))
  | [.agg [.int .i64 a, .lst [.agg [.str n, .str v]] none, .nils], .agg [.int .i64 b, .lst [.agg [.str n', .str v']] none, .nils]] => some (none, .bool (a == b && (n == n' && v == v')))
  | _ => none
def q21e (a b : Int) : Prop := vBody Tryz.prog noH (V Tryz.prog (tabD w0) (tabF w0) noH 80) 21 [.agg [.int .i64 a, .nils, .nils], .agg [.int .i64 b, .nils, .nils]] [] (isB fun r => r = (a == b))
def q21 (a b : Int) (n v n' v' : Str) : Prop := vBody Tryz.prog noH (V Tryz.prog (tabD w0) (tabF w0) noH 80) 21 [.agg [.int .i64 a, .lst [.agg [.str n, .str v]] none, .nils], .agg [.int .i64 b, .lst [.agg [.str n', .str v']] none, .nils]] [] (isB fun r => r = (a == b && (n == n' && v == v')))
def inS (v : Str) : Str := (v.drop 1).take (v.length - 2)
def quoted (v : Str) : Prop := 2 ≤ v.length ∧ v.getD 0 0 = 34 ∧ v.getD (v.length - 1) 0 = 34
def g27 : GF := fun l => match l with
  | [.agg [.int .i64 a, .nils, .nils]] => some (none, .tuple [.str [], .bool false])
  | [.agg [.int .i64 a, .lst [.agg [.str [101, 116, 97, 103], .str v]] none, .nils]] => some (some (lenOK v ∧ quoted v ∧ markB (inS v) = true), .tuple [.str (inS v), .bool true])
  | _ => none
def q27e (a : Int) : Prop := vBody Tryz.prog noH (V Tryz.prog (tabD w0) (tabF w0) noH 80) 27 [.agg [.int .i64 a, .nils, .nils]] [] (isW (.tuple [.str [], .bool false]))
def q27 (a : Int) (v : Str) : Prop := vBody Tryz.prog noH (V Tryz.prog (tabD w0) (tabF w0) noH 80) 27 [.agg [.int .i64 a, .lst [.agg [.str [101, 116, 97, 103], .str v]] none, .nils]] [] (isW (.tuple [.str (inS v), .bool true]))
end Go.Abs
