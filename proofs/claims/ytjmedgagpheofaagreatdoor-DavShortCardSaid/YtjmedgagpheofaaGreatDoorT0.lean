/- dav, http: short replies: what is asked of the symbolic runs. -/
import Derived.Test.YtjmedgagpheofaaGreatDoorS2
set_option linter.unusedSectionVars false
set_option linter.unusedVariables false
set_option linter.unusedSimpArgs false
set_option linter.constructorNameAsVariable false
namespace Go.Abs
open Go.RowKit Go.Proofs

def etagS : Str := [101, 116, 97, 103]
def withinS (lo hi : Int) (s : Str) : Bool := s.all fun c => decide (lo ≤ (c.toNat : Int)) && decide ((c.toNat : Int) ≤ hi)
def edgeB (s : Str) : Bool := s.isEmpty || (!((s.getD 0 0).toNat == 32) && !((s.getD (s.length - 1) 0).toNat == 32))
def valB (s : Str) : Bool := decide (s.length ≤ 200) && withinS 32 126 s && edgeB s
def trimLI (c : Int) (s : Str) : Str := s.dropWhile fun x => (x.toNat : Int) == c
def trimRI (c : Int) (s : Str) : Str := (s.reverse.dropWhile fun x => (x.toNat : Int) == c).reverse
def codeB (i : Int) : Bool := decide (100 ≤ i) && decide (i ≤ 599)
def i64B (i : Int) : Prop := -9223372036854775808 ≤ i ∧ i ≤ 9223372036854775807

def g146 : GF := fun l => match l with
  | [.str s, .int .u8 lo, .int .u8 hi] => some (some (lenOK s), .bool (withinS lo hi s))
  | _ => none
def g133 : GF := fun l => match l with
  | [.str s] => some (some (lenOK s), .bool (valB s))
  | _ => none
def g179 : GF := fun l => match l with
  | [.int .u8 i] => some (none, .bool (decide (32 ≤ i) && decide (i ≤ 126)))
  | _ => none
def g137 : GF := fun l => match l with
  | [.str s, .func (.func 179) []] => some (some (lenOK s), .bool (withinS 32 126 s))
  | _ => none
def g209 : GF := fun l => match l with
  | [.str s, .int .u8 c] => some (some (lenOK s), .str (trimLI c s))
  | _ => none
def g210 : GF := fun l => match l with
  | [.str s, .int .u8 c] => some (some (lenOK s), .str (trimRI c s))
  | _ => none
def g178 : GF := fun l => match l with
  | [.str s, .str [32]] => some (some (lenOK s), .str (trimLI 32 (trimRI 32 s)))
  | _ => none
def g141 : GF := g133
def g99 : GF := fun l => match l with
  | [.int .i64 n] => some (some (i64B n), .str (Lib.itoa n))
  | _ => none
/-- 'etag' as a name. -/
def gEtagB : GF := fun l => match l with
  | [.str [101, 116, 97, 103]] => some (none, .bool true)
  | _ => none
def gEtagS : GF := fun l => match l with
  | [.str [101, 116, 97, 103]] => some (none, .str [101, 116, 97, 103])
  | _ => none
def g97 : GF := fun l => match l with
  | [.nils, .nils] => some (none, .bool true)
  | [.lst [.agg [.str [101, 116, 97, 103], .str v]] none, .nils] => some (some (lenOK v), .bool (valB v))
  | _ => none
def g76 : GF := fun l => match l with
  | [.nils] => some (none, .bool true)
  | [.lst [.agg [.str [101, 116, 97, 103], .str v]] none] => some (some (lenOK v), .bool (valB v))
  | _ => none
def lineS : List Str → Str
  | [] => []
  | s :: l => s ++ [13, 10] ++ lineS l
def shortOK (s : Str) : Prop := s.length ≤ 1000
def laidS (a : Str) (l : List (Str × Str)) (b : Str) : Str := lineS (a :: l.map (fun p => p.1 ++ [58, 32] ++ p.2) ++ [b, []])
def g98 : GF := fun l => match l with
  | [.str a, .nils, .str b] => some (some (shortOK a ∧ 0 < a.length ∧ shortOK b), .lst (bytesA (laidS a [] b)) none)
  | [.str a, .lst [.agg [.str n, .str v]] none, .str b] => some (some (shortOK a ∧ 0 < a.length ∧ shortOK b ∧ shortOK n ∧ shortOK v), .lst (bytesA (laidS a [(n, v)] b)) none)
  | _ => none

def u0 : GT := (30, g30) :: (31, g31) :: t3
def u1 : GT := (179, g179) :: (99, g99) :: (140, gEtagB) :: (131, gEtagB) :: (100, gEtagS) :: (132, gEtagS) :: u0
def u2 : GT := (146, g146) :: (137, g137) :: (209, g209) :: (210, g210) :: u1
def u3 : GT := (133, g133) :: (178, g178) :: u2
def u4 : GT := (141, g141) :: u3
def u5 : GT := (97, g97) :: (76, g76) :: (98, g98) :: u4

def q179 (i : Int) : Prop := vBody Tryz.prog noH (V Tryz.prog (tabD u0) (tabF u0) noH 60) 179 [.int .u8 i] [] (isB fun b => b = (decide (32 ≤ i) && decide (i ≤ 126)))
def h146 (s : Str) (lo hi : Int) : FH := {
  inv := fun i => bif Nat.beq i 2 then some [⟨Nat, fun x => [(0, .str s), (1, .int .u8 lo), (2, .int .u8 hi), (7, .int .i64 x)], fun _ => [], fun x => x ≤ s.length ∧ withinS lo hi (s.take x) = true, fun x => s.length - x⟩] else none }
def hs146 : Hints := fun f l => match f, l with
  | 146, [.str s, .int .u8 lo, .int .u8 hi] => h146 s lo hi
  | _, _ => noFH
def q146 (s : Str) (lo hi : Int) : Prop := vBody Tryz.prog hs146 (V Tryz.prog (tabD u1) (tabF u1) hs146 60) 146 [.str s, .int .u8 lo, .int .u8 hi] [] (isB fun b => b = withinS lo hi s)
def h137 (s : Str) : FH := {
  inv := fun i => bif Nat.beq i 2 then some [⟨Nat, fun x => [(1, .func (.func 179) []), (8, .lst (bytesA s) none), (9, .int .i64 s.length), (10, .int .i64 x)], fun _ => [], fun x => x ≤ s.length ∧ withinS 32 126 (s.take x) = true, fun x => s.length - x⟩] else none
  sub := fun t E => bif Nat.beq t 12 then (match lookF 10 E with
    | some (.int _ i) => some (.iptr [.int .u8 (s.getD i.toNat 0).toNat])
    | _ => none) else none }
def hs137 : Hints := fun f l => match f, l with
  | 137, .str s :: _ => h137 s
  | _, _ => noFH
def q137 (s : Str) : Prop := vBody Tryz.prog hs137 (V Tryz.prog (tabD u1) (tabF u1) hs137 60) 137 [.str s, .func (.func 179) []] [] (isB fun b => b = withinS 32 126 s)
def h209 (s : Str) (c : Int) : FH := {
  inv := fun i => bif Nat.beq i 1 then some [⟨Nat, fun x => [(0, .str (s.drop x)), (1, .int .u8 c)], fun _ => [], fun x => x ≤ s.length ∧ trimLI c (s.drop x) = trimLI c s, fun x => s.length - x⟩] else none }
def hs209 : Hints := fun f l => match f, l with
  | 209, [.str s, .int .u8 c] => h209 s c
  | _, _ => noFH
def q209 (s : Str) (c : Int) : Prop := vBody Tryz.prog hs209 (V Tryz.prog (tabD u1) (tabF u1) hs209 60) 209 [.str s, .int .u8 c] [] (isW (.str (trimLI c s)))
def h210 (s : Str) (c : Int) : FH := {
  inv := fun i => bif Nat.beq i 1 then some [⟨Nat, fun x => [(0, .str (s.take x)), (1, .int .u8 c)], fun _ => [], fun x => x ≤ s.length ∧ trimRI c (s.take x) = trimRI c s, fun x => x⟩] else none }
def hs210 : Hints := fun f l => match f, l with
  | 210, [.str s, .int .u8 c] => h210 s c
  | _, _ => noFH
def q210 (s : Str) (c : Int) : Prop := vBody Tryz.prog hs210 (V Tryz.prog (tabD u1) (tabF u1) hs210 60) 210 [.str s, .int .u8 c] [] (isW (.str (trimRI c s)))
def q133 (s : Str) : Prop := vBody Tryz.prog noH (V Tryz.prog (tabD u2) (tabF u2) noH 60) 133 [.str s] [] (isB fun b => b = valB s)
def q178 (s : Str) : Prop := vBody Tryz.prog noH (V Tryz.prog (tabD u2) (tabF u2) noH 60) 178 [.str s, .str [32]] [] (isW (.str (trimLI 32 (trimRI 32 s))))
def q141 (s : Str) : Prop := vBody Tryz.prog noH (V Tryz.prog (tabD u3) (tabF u3) noH 60) 141 [.str s] [] (isB fun b => b = valB s)
def q97n : Prop := vBody Tryz.prog noH (V Tryz.prog (tabD u4) (tabF u4) noH 60) 97 [.nils, .nils] [] (isB fun b => b = true)
def q97 (v : Str) : Prop := vBody Tryz.prog noH (V Tryz.prog (tabD u4) (tabF u4) noH 60) 97 [.lst [.agg [.str [101, 116, 97, 103], .str v]] none, .nils] [] (isB fun b => b = valB v)
def q76n : Prop := vBody Tryz.prog noH (V Tryz.prog (tabD u4) (tabF u4) noH 60) 76 [.nils] [] (isB fun b => b = true)
def q76 (v : Str) : Prop := vBody Tryz.prog noH (V Tryz.prog (tabD u4) (tabF u4) noH 60) 76 [.lst [.agg [.str [101, 116, 97, 103], .str v]] none] [] (isB fun b => b = valB v)
def h98 : Hints := fun f _ => bif Nat.beq f 98 then { tok := fun d => Nat.beq d 11 } else noFH
def q98n (a b : Str) : Prop := vBody Tryz.prog h98 (V Tryz.prog (tabD u4) (tabF u4) h98 60) 98 [.str a, .nils, .str b] [] (isW (.lst (bytesA (laidS a [] b)) none))
def q98 (a n v b : Str) : Prop := vBody Tryz.prog h98 (V Tryz.prog (tabD u4) (tabF u4) h98 60) 98 [.str a, .lst [.agg [.str n, .str v]] none, .str b] [] (isW (.lst (bytesA (laidS a [(n, v)] b)) none))
end Go.Abs
