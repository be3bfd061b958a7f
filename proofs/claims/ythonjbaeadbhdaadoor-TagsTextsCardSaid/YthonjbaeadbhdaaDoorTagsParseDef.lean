/- The reader of texts, in plain Lean. -/
import Derived.Test.YthonjbaeadbhdaaDoorTagsTextDef
import Derived.Lib.AtoiAll
import Derived.Lib.Bytealg
import Derived.Lib.Strings
namespace Go.Proofs.YthonjbaeadbhdaaDoor

def Tg.among (l : List UInt8) (x : UInt8) : Bool := decide (0 ≤ Lib.indexByte l x)
abbrev letters : List UInt8 := [117, 97, 99, 112]
abbrev digits10 : List UInt8 := [48, 49, 50, 51, 52, 53, 54, 55, 56, 57]
abbrev digits16 : List UInt8 := [48, 49, 50, 51, 52, 53, 54, 55, 56, 57, 97, 98, 99, 100, 101, 102]
def Tg.unhex : List UInt8 → List UInt8
  | a :: b :: r => UInt8.ofNat ((Lib.indexByte digits16 a).toNat * 16 + (Lib.indexByte digits16 b).toNat) :: Tg.unhex r
  | _ => []
abbrev Tg.Pd := Nat → List UInt8 → Option (Tg.Tree × Nat × List UInt8)
/-- The parts of an element's text. -/
def Tg.partsP (f : Tg.Pd) : Nat → Nat → List UInt8 → List Tg.Tree → Option (List Tg.Tree × Nat × List UInt8)
  | 0, _, _, _ => none
  | k + 1, n, s, acc =>
    if Lib.hasPrefix s [41] = true then some (acc, n, Lib.trimPrefix s [41])
    else if acc ≠ [] ∧ Lib.hasPrefix s [32] = false then none
    else match f n (if acc = [] then s else Lib.trimPrefix s [32]) with
      | none => none
      | some (t, n', r) => Tg.partsP f k n' r (acc ++ [t])
/-- What stands behind the letter and the number of an element. -/
def Tg.bodyP (f : Tg.Pd) (c m n : Nat) (s : List UInt8) : Option (Tg.Tree × Nat × List UInt8) :=
  if Lib.hasPrefix s [61] = true then
    let h := (Lib.trimPrefix s [61]).takeWhile (Tg.among digits16)
    if h.length % 2 = 0 then some (.mk c m false (Tg.unhex h) [], n, (Lib.trimPrefix s [61]).dropWhile (Tg.among digits16)) else none
  else if Lib.hasPrefix s [40] = true then
    match Tg.partsP f ((Lib.trimPrefix s [40]).length + 1) n (Lib.trimPrefix s [40]) [] with
    | none => none
    | some (ps, n', r) => some (.mk c m true [] ps, n', r)
  else none
/-- The number of an element: its text is the only one. -/
def Tg.numP (l : List UInt8) : Option Nat :=
  match Lib.atoiAll l with
  | .ok v => if Lib.itoa v = l ∧ v ≤ 2097151 then (if 0 ≤ v then some v.toNat else none) else none
  | _ => none
def Tg.parseP : Nat → Tg.Pd
  | 0, _, _ => none
  | d + 1, n, s =>
    if 1024 ≤ n then none else
    match s with
    | [] => none
    | x :: r =>
      if Lib.indexByte letters x < 0 then none else
      match Tg.numP (r.takeWhile (Tg.among digits10)) with
      | none => none
      | some m => Tg.bodyP (Tg.parseP d) (Lib.indexByte letters x).toNat m (n + 1) (r.dropWhile (Tg.among digits10))

/-- What 'Parse' computes. -/
def Tg.parseT (s : List UInt8) : Tg.Tree × Nat :=
  if 1048576 < s.length then (.mk 0 0 false [] [], 3) else
  match Tg.parseP 16 0 s with
  | some (t, _, []) => if Tg.check t = 0 then (t, 0) else (.mk 0 0 false [] [], 4)
  | _ => (.mk 0 0 false [] [], 4)

end Go.Proofs.YthonjbaeadbhdaaDoor
