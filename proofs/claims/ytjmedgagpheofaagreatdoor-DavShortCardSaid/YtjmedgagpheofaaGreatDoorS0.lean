/- dav: marks, places: what is asked of the symbolic runs. -/
import Derived.Test.YtjmedgagpheofaaGreatDoorVT
import Derived.Test.YtjmedgagpheofaaGreatDoorXP
set_option linter.unusedSectionVars false
set_option linter.unusedVariables false
set_option linter.unusedSimpArgs false
set_option linter.constructorNameAsVariable false
namespace Go.Abs
open Go.RowKit Go.Proofs

def plainZ (i : Int) : Bool := (decide (48 ≤ i) && decide (i ≤ 57)) || (decide (65 ≤ i) && decide (i ≤ 90)) || (decide (97 ≤ i) && decide (i ≤ 122)) || i == 45 || i == 46 || i == 95
def plainS (s : Str) : Bool := s.all fun c => plainZ c.toNat
def markB (s : Str) : Bool := decide (1 ≤ s.length) && decide (s.length ≤ 64) && plainS s
def hrefB (s : Str) : Bool := decide (6 < s.length) && (s.take 6 == [47, 98, 111, 111, 107, 47]) && markB (s.drop 6)
/-- No text is longer. -/
def lenOK (s : Str) : Prop := s.length ≤ 4611686018427387904

def g128 : GF := fun l => match l with
  | [.int .u8 i] => some (none, .bool (plainZ i))
  | _ => none
def g129 : GF := fun l => match l with
  | [.str s, .func (.func 128) []] => some (some (lenOK s), .bool (plainS s))
  | _ => none
def g74 : GF := fun l => match l with
  | [.str s] => some (some (lenOK s), .bool (markB s))
  | _ => none
def g33 : GF := g74
def g30 : GF := fun l => match l with
  | [.str s] => some (some (lenOK s), .bool (hrefB s))
  | _ => none
def g31 : GF := g30

def t0 : GT := []
def t1 : GT := [(128, g128)]
def t2 : GT := (129, g129) :: t1
def t3 : GT := (74, g74) :: (33, g33) :: t2

def q128 (i : Int) : Prop := vBody Tryz.prog noH (V Tryz.prog (tabD t0) (tabF t0) noH 60) 128 [.int .u8 i] [] (isB fun b => b = plainZ i)
def h129 (s : Str) : FH := {
  inv := fun i => bif Nat.beq i 2 then some [⟨Nat, fun x => [(1, .func (.func 128) []), (8, .lst (bytesA s) none), (9, .int .i64 s.length), (10, .int .i64 x)], fun _ => [], fun x => x ≤ s.length ∧ plainS (s.take x) = true, fun x => s.length - x⟩] else none
  sub := fun t E => bif Nat.beq t 12 then (match lookF 10 E with
    | some (.int _ i) => some (.iptr [.int .u8 (s.getD i.toNat 0).toNat])
    | _ => none) else none }
def hs129 : Hints := fun f l => match f, l with
  | 129, .str s :: _ => h129 s
  | _, _ => noFH
def q129 (s : Str) : Prop := vBody Tryz.prog hs129 (V Tryz.prog (tabD t1) (tabF t1) hs129 60) 129 [.str s, .func (.func 128) []] [] (isB fun b => b = plainS s)
def q74 (s : Str) : Prop := vBody Tryz.prog noH (V Tryz.prog (tabD t2) (tabF t2) noH 60) 74 [.str s] [] (isB fun b => b = markB s)
def h33 (s : Str) : FH := {
  inv := fun i => bif Nat.beq i 2 then some [⟨Nat, fun x => [(0, .str s), (3, .int .i64 x)], fun _ => [], fun x => x ≤ s.length ∧ plainS (s.take x) = true, fun x => s.length - x⟩] else none
  cut := fun i E => bif Nat.beq i 5 then (match lookF 3 E with
    | some (.int _ i) => some [⟨Unit, fun _ => [(0, .str s), (3, .int .i64 i), (47, .bool (!plainZ (s.getD i.toNat 0).toNat))], fun _ => [], fun _ => True, fun _ => 0⟩]
    | _ => none) else none }
def hs33 : Hints := fun f l => match f, l with
  | 33, .str s :: _ => h33 s
  | _, _ => noFH
def q33 (s : Str) : Prop := vBody Tryz.prog hs33 (V Tryz.prog (tabD t2) (tabF t2) hs33 60) 33 [.str s] [] (isB fun b => b = markB s)
def q30 (s : Str) : Prop := vBody Tryz.prog noH (V Tryz.prog (tabD t3) (tabF t3) noH 60) 30 [.str s] [] (isB fun b => b = hrefB s)
def q31 (s : Str) : Prop := vBody Tryz.prog noH (V Tryz.prog (tabD t3) (tabF t3) noH 60) 31 [.str s] [] (isB fun b => b = hrefB s)
end Go.Abs
