/- Plain functions on trees of tagged elements: validity, encoding, decoding. No program in sight. -/
namespace Go.Proofs.YthonjbaeadbhdaaDoor.Tg

/-- A tagged element: class, tag, built, value, parts. -/
inductive Tree where
  | mk (c t : Nat) (b : Bool) (v : List UInt8) (ps : List Tree)

def Tree.cls : Tree → Nat | .mk c _ _ _ _ => c
def Tree.tag : Tree → Nat | .mk _ t _ _ _ => t
def Tree.built : Tree → Bool | .mk _ _ b _ _ => b
def Tree.val : Tree → List UInt8 | .mk _ _ _ v _ => v
def Tree.parts : Tree → List Tree | .mk _ _ _ _ ps => ps

/-! ### Validity -/
mutual
/-- 'measure': the element, its depth, the count so far. -/
def meas : Tree → Nat → Nat → Bool × Nat
  | .mk _ _ _ _ ps, d, n => if 16 < d ∨ 1024 < n + 1 then (false, n + 1) else measL ps (d + 1) (n + 1)
def measL : List Tree → Nat → Nat → Bool × Nat
  | [], _, n => (true, n)
  | p :: ps, d, n => match meas p d n with
    | (true, m) => measL ps d m
    | (false, m) => (false, m)
end
mutual
/-- 'plain': the fields of an element and its parts are valid. -/
def plain : Tree → Bool
  | .mk c t b v ps => !(decide (3 < c) || decide (2097151 < t) || (c == 0 && t == 0)) && !((b && decide (0 < v.length)) || (!b && decide (0 < ps.length))) && plainL ps
def plainL : List Tree → Bool
  | [] => true
  | p :: ps => plain p && plainL ps
end
/-- 'Check': 0 OK, 1 ErrArg, 3 ErrLimit. -/
def check (e : Tree) : Nat := if (meas e 1 0).1 = false then 3 else if plain e = false then 1 else 0
def count (e : Tree) : Nat := if check e = 0 then (meas e 1 0).2 else 0

/-! ### Encoding -/
/-- The lowest k bytes of a number, the highest first. -/
def be : Nat → Nat → List UInt8
  | 0, _ => []
  | k + 1, n => UInt8.ofNat (n / 256 ^ k) :: be k n
/-- How many bytes a number has (at most k). -/
def nb : Nat → Nat → Nat
  | 0, _ => 0
  | k + 1, n => if n = 0 then 0 else nb k (n / 256) + 1
/-- The groups of seven bits ahead of the last one (at most k). -/
def hi : Nat → Nat → List UInt8
  | 0, _ => []
  | k + 1, t => if t = 0 then [] else hi k (t / 128) ++ [UInt8.ofNat (128 + t % 128)]
def groups (t : Nat) : List UInt8 := hi 5 (t / 128) ++ [UInt8.ofNat (t % 128)]
def first (c : Nat) (b : Bool) : Nat := c * 64 % 256 + if b then 32 else 0
def ident (c t : Nat) (b : Bool) : List UInt8 :=
  if t < 31 then [UInt8.ofNat (first c b + t)] else UInt8.ofNat (first c b + 31) :: groups t
def size (n f : Nat) : List UInt8 :=
  if f = 2 then UInt8.ofNat 132 :: be 4 n else if n < 128 then [UInt8.ofNat n] else UInt8.ofNat (128 + nb 8 n) :: be (nb 8 n) n
/-- The form in which an element's parts are written. -/
def sub (b : Bool) (f : Nat) : Nat := if b = false ∧ f ≠ 2 then 0 else f
/-- What stands behind an identifier. -/
def body (content : List UInt8) (g : Nat) : List UInt8 :=
  if g = 1 then UInt8.ofNat 128 :: (content ++ [0, 0]) else size content.length g ++ content
mutual
def enc : Tree → Nat → List UInt8
  | .mk c t b v ps, f => ident c t b ++ body (v ++ encL ps (sub b f)) (sub b f)
def encL : List Tree → Nat → List UInt8
  | [], _ => []
  | p :: ps, f => enc p f ++ encL ps f
end
def long (e : Tree) : Nat := (enc e 0).length
/-- 'EncodeAs': the bytes and the error. -/
def encodeAs (e : Tree) (f : Nat) : List UInt8 × Nat :=
  if check e ≠ 0 then ([], check e) else if 2 < f then ([], 1) else if 65536 < long e then ([], 3) else if 65536 < (enc e f).length then ([], 3) else (enc e f, 0)

/-! ### Decoding: '.error' bears the number of the error -/
abbrev Bs := List UInt8
def numberD : Bool → Nat → Bs → Except Nat (Nat × Bs)
  | _, _, [] => .error 4
  | first, n, x :: r =>
    if first = true ∧ x.toNat = 128 then .error 4
    else if 2097151 < n * 128 + x.toNat % 128 then .error 3
    else if x.toNat < 128 then (if 31 ≤ n * 128 + x.toNat % 128 then .ok (n * 128 + x.toNat % 128, r) else .error 4)
    else numberD false (n * 128 + x.toNat % 128) r
/-- A length out of its bytes: not above 65537. -/
def lenOf (l : Bs) : Nat := l.foldl (fun n y => min (n * 256 + y.toNat) 65537) 0
def lengthD (b : Bool) : Bs → Except Nat (Option Nat × Bs)
  | [] => .error 4
  | x :: r =>
    if x.toNat < 128 then .ok (some x.toNat, r)
    else if x.toNat = 128 then (if b = true then .ok (none, r) else .error 4)
    else if x.toNat = 255 then .error 4
    else if r.length < x.toNat - 128 then .error 4
    else .ok (some (lenOf (r.take (x.toNat - 128))), r.drop (x.toNat - 128))
/-- 'ahead': is there another part, and the rest. -/
def aheadD : Bs → Except Nat (Bool × Bs)
  | [] => .error 4
  | x :: r => if x.toNat ≠ 0 then .ok (true, x :: r) else
    match r with
    | [] => .error 4
    | y :: r' => if y.toNat = 0 then .ok (false, r') else .error 4
/-- One element's reader: the count so far, what is left; the element, the count, what is left. -/
abbrev Rd := Nat → Bs → Except Nat (Tree × Nat × Bs)
def openD (f : Rd) : Nat → Nat → Bs → List Tree → Except Nat (List Tree × Nat × Bs)
  | 0, _, _, _ => .error 99
  | k + 1, n, r, acc =>
    match aheadD r with
    | .error e => .error e
    | .ok (false, r') => .ok (acc, n, r')
    | .ok (true, r') =>
      match f n r' with
      | .error e => .error e
      | .ok (t, n', r'') => openD f k n' r'' (acc ++ [t])
def closedD (f : Rd) : Nat → Nat → Bs → List Tree → Except Nat (List Tree × Nat)
  | 0, _, _, _ => .error 99
  | k + 1, n, r, acc =>
    match r with
    | [] => .ok (acc, n)
    | _ :: _ =>
      match f n r with
      | .error e => .error e
      | .ok (t, n', r'') => closedD f k n' r'' (acc ++ [t])
/-- The tag behind an identifier's first byte. -/
def tagD (x : Nat) (r : Bs) : Except Nat (Nat × Bs) := if x % 32 = 31 then numberD true 0 r else .ok (x % 32, r)
/-- The content of an element with a known length. -/
def contentD (f : Rd) (c t : Nat) (b : Bool) (n : Nat) (m : Option Nat) (r : Bs) : Except Nat (Tree × Nat × Bs) :=
  match m with
  | none =>
    match openD f (r.length + 1) n r [] with
    | .error e => .error e
    | .ok (ps, n', r') => .ok (.mk c t b [] ps, n', r')
  | some k =>
    if r.length < k then .error 4
    else if b = true then
      match closedD f (r.length + 1) n (r.take k) [] with
      | .error e => .error e
      | .ok (ps, n') => .ok (.mk c t b [] ps, n', r.drop k)
    else .ok (.mk c t b (r.take k) [], n, r.drop k)
/-- 'element', 'd' levels being left. -/
def elemD : Nat → Rd
  | 0, _, _ => .error 3
  | d + 1, n, r =>
    if 1024 ≤ n then .error 3 else
    match r with
    | [] => .error 4
    | x :: r1 =>
      match tagD x.toNat r1 with
      | .error e => .error e
      | .ok (t, r2) =>
        if x.toNat / 64 = 0 ∧ t = 0 then .error 4 else
        match lengthD (decide (x.toNat / 32 % 2 = 1)) r2 with
        | .error e => .error e
        | .ok (m, r3) => contentD (elemD d) (x.toNat / 64) t (decide (x.toNat / 32 % 2 = 1)) (n + 1) m r3
/-- 'First': the element and the number of its bytes, or the error. -/
def firstD (b : Bs) : Except Nat (Tree × Nat) :=
  if 65536 < b.length then .error 3 else
  match elemD 16 0 b with
  | .error e => .error e
  | .ok (t, _, r) => .ok (t, b.length - r.length)
def decode (b : Bs) : Except Nat Tree :=
  match firstD b with
  | .error e => .error e
  | .ok (t, n) => if n < b.length then .error 4 else .ok t

/-! ### Comparison -/
mutual
def same : Tree → Tree → Bool
  | .mk c t b v ps, .mk c' t' b' v' ps' => c == c' && t == t' && b == b' && v == v' && (ps.length == ps'.length) && sameL ps ps'
def sameL : List Tree → List Tree → Bool
  | [], _ => true
  | _ :: _, [] => true
  | p :: ps, q :: qs => same p q && sameL ps qs
end
def sameT (a b : Tree) : Bool := decide (check a = 0) && decide (check b = 0) && same a b

/-! ### Integers -/
/-- How many bytes of two's complement an integer has, at least k. -/
def intLen (n : Int) : Nat → Nat → Nat
  | 0, k => k
  | j + 1, k => if k < 8 ∧ n / 2 ^ (8 * k - 1) ≠ 0 ∧ n / 2 ^ (8 * k - 1) ≠ -1 then intLen n j (k + 1) else k
/-- The contents of an integer. -/
def intBytes (n : Int) : List UInt8 := let k := intLen n 8 1; (List.range k).map fun i => UInt8.ofNat ((n / 2 ^ (8 * (k - 1 - i))) % 256).toNat
/-- The value of bytes in two's complement. -/
def bytesVal : Bs → Int
  | [] => 0
  | x :: r => r.foldl (fun (n : Int) y => n * 256 + y.toNat) (if x.toNat < 128 then (x.toNat : Int) else x.toNat - 256)
def toInt (l : Bs) : Int × Nat :=
  match l with
  | [] => (0, 4)
  | [x] => (bytesVal [x], 0)
  | x :: y :: r =>
    if (x.toNat = 0 ∧ y.toNat < 128) ∨ (x.toNat = 255 ∧ 128 ≤ y.toNat) then (0, 4)
    else if 8 < (x :: y :: r).length then (0, 3) else (bytesVal (x :: y :: r), 0)
end Go.Proofs.YthonjbaeadbhdaaDoor.Tg
