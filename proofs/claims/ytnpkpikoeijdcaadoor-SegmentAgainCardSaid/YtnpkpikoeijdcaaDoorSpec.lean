/- What the chapter says, as plain functions on lists of numbers: no program, no memory. -/
import Derived.Test.YtnpkpikoeijdcaaDoorBase
namespace Go.Proofs.YtnpkpikoeijdcaaDoor
open Go

structure Qt where
  id : Int
  wide : Bool
  tab : List Int
structure Hf where
  cls : Int
  id : Int
  cnt : List Int
  vals : List Int
structure Cm where
  id : Int
  h : Int
  v : Int
  q : Int
structure Pt where
  comp : Int
  dc : Int
  ac : Int
structure Fr where
  kind : Int
  width : Int
  height : Int
  comps : List Cm
structure Sg where
  code : Int
  at_ : Int
  end_ : Int
  quants : List Qt
  huffs : List Hf
  frame : Fr
  parts : List Pt
  ids : List Int
  restart : Int
  data : List Int

/-- What a code is refused by; 0: it is not. -/
def refusedS (c : Int) : Int :=
  if c = 0xc0 ∨ c = 0xc1 ∨ c = 0xc4 ∨ c = 0xda ∨ c = 0xdb ∨ c = 0xdd then 0
  else if c = 0xc2 then 156
  else if 0xc9 ≤ c ∧ c ≤ 0xcf then 157
  else if c = 0xc3 ∨ c = 0xc5 ∨ c = 0xc6 ∨ c = 0xc7 ∨ c = 0xc8 ∨ c = 0xde ∨ c = 0xdf then 160
  else if c = 0xdc then 159
  else if 0xe0 ≤ c ∧ c ≤ 0xfe then 0
  else 151

/-- A table of steps: 0, 80 (a step is 0), 3 (a step is too wide). -/
def qcheck (wide : Bool) : List Int → Int → Int
  | [], e => e
  | x :: r, e => if x = 0 then 80 else qcheck wide r (if 255 < x ∧ wide = false then 3 else e)

/-- A table's weight and its number of codes. -/
def hweight : Nat → List Int → Int → Int → Int × Int
  | _, [], s, n => (s, n)
  | i, c :: r, s, n => hweight (i + 1) r (s + c * 2 ^ (15 - i)) (n + c)
def dup : List Int → List Int → Bool
  | _, [] => false
  | seen, v :: r => if v ∈ seen then true else dup (v :: seen) r
def hcheck (cnt vals : List Int) : Int :=
  if (hweight 0 cnt 0 0).2 = 0 ∨ 256 < (hweight 0 cnt 0 0).2 ∨ (hweight 0 cnt 0 0).2 ≠ vals.length then 40
  else if 65535 < (hweight 0 cnt 0 0).1 then 41
  else if dup [] vals = true then 42 else 0

def idsBad : List Cm → List Cm → Bool
  | _, [] => false
  | seen, c :: r => if seen.any (fun o => o.id == c.id) = true then true else if 3 < c.q then true else idsBad (seen ++ [c]) r
def mostH : List Cm → Int → Int
  | [], h => h
  | c :: r, h => mostH r (if h < c.h then c.h else h)
def mostV : List Cm → Int → Int
  | [], h => h
  | c :: r, h => mostV r (if h < c.v then c.v else h)
def facBad : List Cm → Bool
  | [] => false
  | c :: r => if c.h < 1 ∨ 4 < c.h ∨ c.v < 1 ∨ 4 < c.v then true else facBad r
def ratBad (h v : Int) : List Cm → Bool
  | [] => false
  | c :: r => if h % c.h ≠ 0 ∨ v % c.v ≠ 0 then true else ratBad h v r
def gcheck (f : Fr) : Int :=
  if f.width < 1 ∨ 65535 < f.width ∨ f.height < 1 ∨ 65535 < f.height then 140
  else if f.comps.length < 1 ∨ 4 < f.comps.length then 143
  else if idsBad [] f.comps = true then 143
  else if facBad f.comps = true then 141
  else if ratBad (mostH f.comps 0) (mostV f.comps 0) f.comps = true then 142 else 0
def framedS (f : Fr) : Int :=
  if f.height = 0 then 159 else if gcheck f = 0 then 0 else if gcheck f = 142 then 142 else 154

/-! ### reading -/
def qTab (size : Nat) (l : List Int) : List Int := (List.range 64).map fun k => if size = 1 then l.getD k 0 else l.getD (2 * k) 0 * 256 + l.getD (2 * k + 1) 0
def rdQuant (first : Int) (d : List Int) : Except Int (Qt × List Int) :=
  if d.length < 64 * (1 + first / 16).toNat then .error 152
  else if qcheck (first / 16 == 1) (qTab (1 + first / 16).toNat d) 0 ≠ 0 then .error 153
  else .ok (⟨first % 16, first / 16 == 1, qTab (1 + first / 16).toNat d⟩, d.drop (64 * (1 + first / 16).toNat))
def sumI (l : List Int) : Int := l.foldl (· + ·) 0
def rdHuff (first : Int) (d : List Int) : Except Int (Hf × List Int) :=
  if d.length < 16 then .error 152
  else if (d.length : Int) - 16 < sumI (d.take 16) then .error 152
  else if hcheck (d.take 16) ((d.drop 16).take (sumI (d.take 16)).toNat) ≠ 0 then .error 153
  else .ok (⟨first / 16, first % 16, d.take 16, (d.drop 16).take (sumI (d.take 16)).toNat⟩, (d.drop 16).drop (sumI (d.take 16)).toNat)
def rdTables {α : Type} (rd : Int → List Int → Except Int (α × List Int)) : Nat → List Int → List α → Except Int (List α)
  | _, [], acc => .ok acc
  | 0, _ :: _, _ => .error 152
  | n + 1, first :: rest, acc =>
    if 1 < first / 16 ∨ 3 < first % 16 then .error 153
    else match rd first rest with
      | .error e => .error e
      | .ok (q, r) => rdTables rd n r (acc ++ [q])
def rdAll {α : Type} (rd : Int → List Int → Except Int (α × List Int)) (d : List Int) : Except Int (List α) :=
  if d = [] then .error 152 else rdTables rd d.length d []
def rdComps : Nat → List Int → List Cm
  | 0, _ => []
  | n + 1, d => ⟨d.getD 0 0, d.getD 1 0 / 16, d.getD 1 0 % 16, d.getD 2 0⟩ :: rdComps n (d.drop 3)
def rdFrame (code : Int) (d : List Int) : Except Int Fr :=
  if d.length < 6 ∨ (d.length : Int) ≠ 6 + 3 * d.getD 5 0 then .error 152
  else if d.getD 0 0 ≠ 8 then .error 158
  else
    let f : Fr := ⟨code, d.getD 3 0 * 256 + d.getD 4 0, d.getD 1 0 * 256 + d.getD 2 0, rdComps ((d.length - 6) / 3) (d.drop 6)⟩
    if framedS f ≠ 0 then .error (framedS f) else .ok f
def rdParts : Nat → List Int → Except Int (List Int × List Pt)
  | 0, _ => .ok ([], [])
  | n + 1, d =>
    if 3 < d.getD 1 0 / 16 ∨ 3 < d.getD 1 0 % 16 then .error 155
    else match rdParts n (d.drop 2) with
      | .error e => .error e
      | .ok (is, ps) => .ok (d.getD 0 0 :: is, ⟨0, d.getD 1 0 / 16, d.getD 1 0 % 16⟩ :: ps)
def rdScan (d : List Int) : Except Int (List Int × List Pt) :=
  if d = [] ∨ (d.length : Int) ≠ 4 + 2 * d.getD 0 0 then .error 152
  else if d.getD 0 0 < 1 ∨ 4 < d.getD 0 0 ∨ d.drop (d.length - 3) ≠ [0, 63, 0] then .error 155
  else rdParts (d.getD 0 0).toNat (d.drop 1)
def emptyFr : Fr := ⟨0, 0, 0, []⟩
def emptySg (code a e : Int) : Sg := ⟨code, a, e, [], [], emptyFr, [], [], 0, []⟩
def rdData (code a e : Int) (d : List Int) : Except Int Sg :=
  if code = 0xdb then (rdAll rdQuant d).map fun l => { emptySg code a e with quants := l }
  else if code = 0xc4 then (rdAll rdHuff d).map fun l => { emptySg code a e with huffs := l }
  else if code = 0xc0 ∨ code = 0xc1 then (rdFrame code d).map fun f => { emptySg code a e with frame := f }
  else if code = 0xda then (rdScan d).map fun x => { emptySg code a e with ids := x.1, parts := x.2 }
  else if code = 0xdd then if d.length ≠ 2 then .error 152 else .ok { emptySg code a e with restart := d.getD 0 0 * 256 + d.getD 1 0 }
  else .ok { emptySg code a e with data := d }
/-- A fault (its number, its place), or a segment. -/
def readS (f : List Int) (a : Int) : Except (Int × Int) Sg :=
  let n : Int := f.length
  if a < 0 ∨ n < a then .error (3, a)
  else if a < n ∧ f.getD a.toNat 0 ≠ 0xff then .error (151, a)
  else if n - a < 2 then .error (44, n)
  else if refusedS (f.getD (a.toNat + 1) 0) ≠ 0 then .error (refusedS (f.getD (a.toNat + 1) 0), a)
  else if n - a < 4 then .error (44, n)
  else
    let long := f.getD (a.toNat + 2) 0 * 256 + f.getD (a.toNat + 3) 0
    if long < 2 then .error (152, a + 2)
    else if n < a + 2 + long then .error (44, n)
    else match rdData (f.getD (a.toNat + 1) 0) a (a + 2 + long) ((f.drop (a.toNat + 4)).take (long.toNat - 2)) with
      | .error e => if e = 152 then .error (152, a + 2) else .error (e, a)
      | .ok s => .ok s
end Go.Proofs.YtnpkpikoeijdcaaDoor
