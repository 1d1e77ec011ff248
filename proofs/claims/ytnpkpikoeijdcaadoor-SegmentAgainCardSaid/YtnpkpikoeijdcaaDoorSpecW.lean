/- What the chapter says of writing, as plain functions on lists of numbers: no program, no memory. -/
import Derived.Test.YtnpkpikoeijdcaaDoorSpec
namespace Go.Proofs.YtnpkpikoeijdcaaDoor
open Go

def twoS (n : Int) : List Int := [n / 256 % 256, n % 256]
def tabS (wide : Bool) : List Int → List Int
  | [] => []
  | x :: l => if wide = true then twoS x ++ tabS wide l else x % 256 :: tabS wide l
def wrQuant (q : Qt) : List Int := (if q.wide = true then 16 + q.id else q.id) :: tabS q.wide q.tab
def qBad (q : Qt) : Bool := decide (3 < q.id) || decide (qcheck q.wide q.tab 0 ≠ 0)
def wrQuants : List Qt → Except Int (List Int)
  | [] => .ok []
  | q :: l => if qBad q = true then .error 153 else (wrQuants l).map fun r => wrQuant q ++ r
def wrHuff (h : Hf) : List Int := (16 * h.cls + h.id) :: (h.cnt ++ h.vals)
def hBad (h : Hf) : Bool := decide (1 < h.cls) || decide (3 < h.id) || decide (hcheck h.cnt h.vals ≠ 0)
def wrHuffs : List Hf → Except Int (List Int)
  | [] => .ok []
  | h :: l => if hBad h = true then .error 153 else (wrHuffs l).map fun r => wrHuff h ++ r
def wrComp (c : Cm) : List Int := [c.id, 16 * c.h + c.v, c.q]
def wrFrame (f : Fr) : Except Int (List Int) :=
  if framedS f ≠ 0 then .error (framedS f) else .ok (8 :: (twoS f.height ++ twoS f.width ++ (f.comps.length : Int) :: f.comps.flatMap wrComp))
def pBad (p : Pt) : Bool := decide (3 < p.dc) || decide (3 < p.ac)
def wrParts : List Int → List Pt → List Int
  | i :: is, p :: ps => i :: (16 * p.dc + p.ac) :: wrParts is ps
  | _, _ => []
def wrScan (ids : List Int) (parts : List Pt) : Except Int (List Int) :=
  if parts.length < 1 ∨ 4 < parts.length ∨ ids.length ≠ parts.length then .error 155
  else if parts.any pBad = true then .error 155
  else .ok ((parts.length : Int) :: (wrParts ids parts ++ [0, 63, 0]))
def wrData (s : Sg) : Except Int (List Int) :=
  if s.code = 0xdb then wrQuants s.quants
  else if s.code = 0xc4 then wrHuffs s.huffs
  else if s.code = 0xc0 ∨ s.code = 0xc1 then wrFrame s.frame
  else if s.code = 0xdd then if s.restart < 0 ∨ 65535 < s.restart then .error 3 else .ok (twoS s.restart)
  else if s.code = 0xda then wrScan s.ids s.parts
  else .ok s.data
def textS (s : Sg) : Except Int (List Int) :=
  if refusedS s.code ≠ 0 then .error 151
  else match wrData s with
    | .error e => .error e
    | .ok d => if ((s.code = 0xdb ∨ s.code = 0xc4) ∧ d.length = 0) ∨ 65533 < d.length then .error 152 else .ok (255 :: s.code :: (twoS (d.length + 2) ++ d))
end Go.Proofs.YtnpkpikoeijdcaaDoor
