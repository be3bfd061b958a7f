/- The text of an element, in plain Lean. -/
import Derived.Test.YthonjbaeadbhdaaDoorTagsPure
import Derived.Lib.ItoaNum
namespace Go.Proofs.YthonjbaeadbhdaaDoor

def Tg.hexd (n : Nat) : UInt8 := if n < 10 then UInt8.ofNat (48 + n) else UInt8.ofNat (87 + n)
def Tg.hexs : List UInt8 → List UInt8
  | [] => []
  | x :: r => Tg.hexd (x.toNat / 16) :: Tg.hexd (x.toNat % 16) :: Tg.hexs r
def Tg.letter (c : Nat) : UInt8 := match c with | 0 => 117 | 1 => 97 | 2 => 99 | _ => 112
mutual
def Tg.text : Tg.Tree → List UInt8
  | .mk c t b v ps => Tg.letter c :: Lib.itoa (t : Int) ++ (if b = true then 40 :: Tg.textL true ps ++ [41] else 61 :: Tg.hexs v)
def Tg.textL (first : Bool) : List Tg.Tree → List UInt8
  | [] => []
  | p :: ps => (if first = true then [] else [32]) ++ Tg.text p ++ Tg.textL false ps
end

end Go.Proofs.YthonjbaeadbhdaaDoor
