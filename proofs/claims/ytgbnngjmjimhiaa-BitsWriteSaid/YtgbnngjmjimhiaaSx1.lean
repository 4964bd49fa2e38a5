/-
  The engine, part 1: symbolic values, symbolic blocks, states, the compact code and its evaluation.
-/
import Derived.RangeFuncRecord
import Derived.RangeFuncCalls
import Derived.OrdersIn
namespace Go.Sx
open Go

/-! ### Words that the evaluation leaves alone -/
/-- What an operation on two integers of kind k gives. -/
def bV (op : BinOp) (k : IntKind) (x y : Int) : Int :=
  match op with
  | .add => k.wrap (x + y)
  | .sub => k.wrap (x - y)
  | .mul => k.wrap (x * y)
  | .quo => k.wrap (x.tdiv y)
  | .rem => x.tmod y
  | .and => k.wrap (BitVec.ofInt k.bits x &&& BitVec.ofInt k.bits y).toNat
  | .or => k.wrap (BitVec.ofInt k.bits x ||| BitVec.ofInt k.bits y).toNat
  | .xor => k.wrap (BitVec.ofInt k.bits x ^^^ BitVec.ofInt k.bits y).toNat
  | .andNot => k.wrap (BitVec.ofInt k.bits x &&& ~~~ (BitVec.ofInt k.bits y)).toNat
  | .shl => k.wrap (x * 2 ^ (min y.toNat k.bits))
  | .shr => x.fdiv (2 ^ (min y.toNat k.bits))
  | _ => 0
def cV (op : BinOp) (x y : Int) : Bool :=
  match op with
  | .eql => x == y
  | .neq => x != y
  | .lss => x < y
  | .leq => x ≤ y
  | .gtr => x > y
  | .geq => x ≥ y
  | _ => false
def isCmp (op : BinOp) : Bool :=
  match op with
  | .eql => true
  | .neq => true
  | .lss => true
  | .leq => true
  | .gtr => true
  | .geq => true
  | _ => false
/-- The words that the evaluation leaves alone: it is carried out over whatever words, and then over these. -/
structure Ops where
  b : BinOp → IntKind → Int → Int → Int
  c : BinOp → Int → Int → Bool
  w : IntKind → Int → Int
  toN : Int → Nat
  ofN : Nat → Int
  addN : Nat → Nat → Nat
  subN : Nat → Nat → Nat
  maxI : Int → Int → Int
  minI : Int → Int → Int
  cutN : Nat → Nat → Nat → Nat
  gd : List Int → Nat → Int
  st : List Int → Nat → Int → List Int
  ln : List Int → Nat
  rep : Nat → Int → List Int
  sub : List Int → Nat → Nat → List Int
  onto : List Int → Nat → List Int → List Int
  splice : List Int → Nat → List Int → List Int
  strEq : List Int → List Int → Bool
  byteV : Int → Int
  notB : Bool → Bool
  eqB : Bool → Bool → Bool
/-- Where a slice begins that is cut at l out of one that begins at i (cutN): behind an empty capacity the address stays. -/
def std : Ops where
  b := bV
  c := cV
  w k x := k.wrap x
  toN n := n.toNat
  ofN n := (n : Int)
  addN a b := a + b
  subN a b := a - b
  maxI x y := if y > x then y else x
  minI x y := if y < x then y else x
  cutN i l m := if m = l then i else i + l
  gd l n := l.getD n 0
  st l n v := l.set n v
  ln l := l.length
  rep n v := List.replicate n v
  sub l i n := (l.drop i).take n
  onto l n xs := l.take n ++ xs
  splice l i xs := l.take i ++ xs ++ l.drop (i + xs.length)
  strEq a b := a.map (fun n => UInt8.ofNat n.toNat) == b.map (fun n => UInt8.ofNat n.toNat)
  byteV n := ((UInt8.ofNat n.toNat).toNat : Int)
  notB b := !b
  eqB a b := a == b
structure Lt (a b : Nat) : Prop where
  out : a < b
structure Le (a b : Nat) : Prop where
  out : a ≤ b
structure InR (i : Int) (n : Nat) : Prop where
  out : 0 ≤ i ∧ i < (n : Int)
structure InC (i : Int) (n : Nat) : Prop where
  out : 0 ≤ i ∧ i ≤ (n : Int)
structure NonZ (i : Int) : Prop where
  out : i ≠ 0
structure NonNeg (i : Int) : Prop where
  out : 0 ≤ i
/-- A bound of an append: so many elements of so many bytes. -/
structure Fits (n bytes : Nat) : Prop where
  out : n * bytes ≤ 140737488355328
structure FitsMk (n : Int) (bytes : Nat) : Prop where
  out : n * bytes ≤ 281474976710656

/-! ### Symbolic values -/
inductive Ix where
  | z
  | n (i : Nat)

inductive SV where
  | undef
  | val (v : Value)
  | bool (b : Bool)
  | lit (k : IntKind) (n : Int)
  | int (k : IntKind) (n : Int)
  | str (l : List Int)
  | ptr (b : Nat) (i : Ix) (sz j : Nat)
  | slice (b : Nat) (i : Ix) (sz : Nat) (len cap : Nat)
  | fn (f : Nat) (cs : List SV)
  | yield (l : Nat)
  | iface (t : Nat) (v : SV)
  | agg (cs : List SV)
  | tup (cs : List SV)

inductive XO where
  | t (n : Nat)
  | k (v : SV)

/-- What a built value is made of: where, how many cells, what. -/
structure Part where
  off : Nat
  sz : Nat
  x : XO

inductive XOp where
  | mv (x : XO)
  | mvS (x : XO)
  | pick (c a b : XO)
  | box (t : Nat) (ik : Option IntKind) (x : XO)
  | newI (t : Nat) (k : IntKind) (n : Nat)
  | newR (t : Nat) (row : List SV)
  | build (zero : List SV) (ps : List Part)
  | bsliceI (e : Nat) (k : IntKind) (n : Nat) (ps : List Part)
  | bsliceR (e : Nat) (sz n : Nat) (zero : List SV) (ps : List Part)
  | load1 (x : XO)
  | loadA (sz : Nat) (x : XO)
  | store1 (x v : XO)
  | storeA (sz : Nat) (x v : XO)
  | nilchk (x : XO)
  | bin (op : BinOp) (k : IntKind) (x y : XO)
  | cmp (op : BinOp) (x y : XO)
  | eqv (neg : Bool) (ty : Nat) (x y : XO)
  | not (x : XO)
  | neg (k : IntKind) (x : XO)
  | cpl (k : IntKind) (x : XO)
  | conv (k : IntKind) (x : XO)
  | bstr (x : XO)
  | fadr (off : Nat) (x : XO)
  | fld (off : Nat) (ag : Option Nat) (x : XO)
  | idxS (x i : XO)
  | iadr (sz : Nat) (x i : XO)
  | iadrA (n sz : Nat) (x i : XO)
  | slc (sz : Nat) (x : XO) (lo hi mx : Option XO)
  | slcA (n sz : Nat) (x : XO) (lo hi mx : Option XO)
  | mkslI (e : Nat) (k : IntKind) (bytes : Nat) (l c : XO)
  | appI (e : Nat) (k : IntKind) (bytes : Nat) (s x : XO)
  | appZ (e : Nat) (k : IntKind) (bytes : Nat) (s x : XO)
  | copyI (s x : XO)
  | len (x : XO)
  | lenS (x : XO)
  | cap (x : XO)
  | max (x y : XO)
  | min (x y : XO)
  | mkfn (f : Nat) (cs : List XO)
  | extract (x : XO) (i : Nat)
  | call (f : XO) (args : List XO)
  | mkif (t : Nat) (x : XO)
  | pnc (x : XO)

structure XStep where
  dst : Option Nat
  op : XOp
  guard : Option (Nat × Bool)
  chk : List (XOp × Nat × Option (Nat × Bool))

inductive XC where
  | skip
  | ops (l : List XStep)
  | seq (a b : XC)
  | cond (c : XO) (a b : XC)
  | block (id : Nat) (b : XC)
  | loop (b : XC)
  | range (f : XO) (ps : List Nat) (asg body : XC)
  | exit (id : Nat)
  | ret

inductive XE where
  | normal
  | exit (id : Nat)
  | ret
  | panic (v : SV)

inductive LSt where
  | ready | busy | done | exhausted

/-- A block of memory, by what is known of it. 'ro': so many cells from a place on, read only, perhaps shared. The others are blocks of their own. -/
inductive SB where
  | free
  | one (t : Nat) (row : List SV)
  | ints (t : Nat) (k : IntKind) (l : List Int)
  | buf (t : Nat) (k : IntKind) (l : List Int) (c : Nat)
  | arr (t : Nat) (sz len : Nat) (f : Nat → List SV)
  | ro (k : IntKind) (l : List Int)
  | roA (sz len : Nat) (f : Nat → List SV)
  | loop (s : LSt) (pend : Option XE) (t : List SV) (ps : List Nat) (asg body : XC)
  | defd

structure SS where
  t : List SV
  h : List SB
  r : List Nat
  d : List Nat
  rd : Option Nat

def ev (s : SS) : XO → SV
  | .t n => s.t.getD n .undef
  | .k v => v

def put (d : Option Nat) (v : SV) (s : SS) : SS :=
  match d with
  | some d => { s with t := s.t.set d v }
  | none => s

/-! ### Which names a value mentions; forgetting them -/
def memN (n : Nat) : List Nat → Bool
  | [] => false
  | m :: l => if n == m then true else memN n l
mutual
def men (R : List Nat) : SV → Bool
  | .ptr b _ _ _ => memN b R
  | .slice b _ _ _ _ => memN b R
  | .yield l => memN l R
  | .fn _ cs => menL R cs
  | .iface _ v => men R v
  | .agg cs => menL R cs
  | .tup cs => menL R cs
  | _ => false
def menL (R : List Nat) : List SV → Bool
  | [] => false
  | v :: l => if men R v then true else menL R l
end
def scrL (R : List Nat) (js : Nat → Value) : Nat → List SV → List SV
  | _, [] => []
  | i, v :: l => (if men R v then .val (js i) else v) :: scrL R js (i + 1) l
def scrB (R : List Nat) (js : Nat → Value) : SB → SB
  | .one t row => .one t (scrL R js 0 row)
  | .loop s p t ps a b => .loop s p (scrL R js 0 t) ps a b
  | b => b
def scrH (R : List Nat) (js : Nat → Nat → Value) : Nat → List SB → List SB
  | _, [] => []
  | i, b :: l => scrB R (js (i + 1)) b :: scrH R js (i + 1) l
/-- No row of a long block mentions a name of R. -/
def menB (R : List Nat) (B : SB) (K : Prop) : Prop :=
  match B with
  | .arr _ _ _ f => (∀ i, menL R (f i) = false) ∧ K
  | .roA _ _ f => (∀ i, menL R (f i) = false) ∧ K
  | _ => K
def menH (R : List Nat) : List SB → Prop → Prop
  | [], K => K
  | B :: l, K => menB R B (menH R l K)
/-- All that mentions a name of R is forgotten. -/
def scr (R : List Nat) (js : Nat → Nat → Value) (s : SS) : SS :=
  { s with t := scrL R (js 0) 0 s.t, h := scrH R js 0 s.h }
def addR (n : Nat) (R : List Nat) : List Nat := if memN n R then R else n :: R

/-! ### All names are there -/
def ltB (a b : Nat) : Bool := decide (a < b)
mutual
def scV (n : Nat) : SV → Bool
  | .ptr b _ _ _ => ltB b n
  | .slice b _ _ _ _ => ltB b n
  | .yield l => ltB l n
  | .fn _ cs => scL n cs
  | .iface _ v => scV n v
  | .agg cs => scL n cs
  | .tup cs => scL n cs
  | _ => true
def scL (n : Nat) : List SV → Bool
  | [] => true
  | v :: l => if scV n v then scL n l else false
end
def scB (n : Nat) (B : SB) (K : Prop) : Prop :=
  match B with
  | .one _ row => if scL n row then K else False
  | .arr _ _ _ f => (∀ i, scL n (f i) = true) ∧ K
  | .roA _ _ f => (∀ i, scL n (f i) = true) ∧ K
  | .loop _ _ t _ _ _ => if scL n t then K else False
  | _ => K
def scH (n : Nat) : List SB → Prop → Prop
  | [], K => K
  | B :: l, K => scB n B (scH n l K)
/-- All names that a state mentions are names of its blocks. -/
def scS (s : SS) (K : Prop) : Prop := if scL s.h.length s.t then scH s.h.length s.h K else False

/-! ### Reading and writing memory -/
def rowAt (row : List SV) (j : Nat) (K : SV → Prop) : Prop :=
  match row[j]? with
  | some v => K v
  | none => False
/-- A cell is read. -/
def ldB (O : Ops) (B : SB) (i : Ix) (sz j : Nat) (K : SV → Prop) : Prop :=
  match B, i with
  | .one _ row, .z => rowAt row j K
  | .ints _ k l, .z => match sz, j with
    | 1, 0 => Lt 0 (O.ln l) ∧ K (.int k (O.gd l 0))
    | _, j => Lt j (O.ln l) ∧ K (.int k (O.gd l j))
  | .ints _ k l, .n i => match sz, j with
    | 1, 0 => Lt i (O.ln l) ∧ K (.int k (O.gd l i))
    | _, _ => False
  | .buf _ k l _, .z => match sz, j with
    | 1, 0 => Lt 0 (O.ln l) ∧ K (.int k (O.gd l 0))
    | _, j => Lt j (O.ln l) ∧ K (.int k (O.gd l j))
  | .buf _ k l _, .n i => match sz, j with
    | 1, 0 => Lt i (O.ln l) ∧ K (.int k (O.gd l i))
    | _, _ => False
  | .ro k l, .z => match sz, j with
    | 1, 0 => Lt 0 (O.ln l) ∧ K (.int k (O.gd l 0))
    | _, _ => False
  | .ro k l, .n i => match sz, j with
    | 1, 0 => Lt i (O.ln l) ∧ K (.int k (O.gd l i))
    | _, _ => False
  | .arr _ sz' len f, .n i => if sz == sz' then Lt i len ∧ rowAt (f i) j K else False
  | .arr _ sz' len f, .z => if sz == sz' then Lt 0 len ∧ rowAt (f 0) j K else False
  | .roA sz' len f, .n i => if sz == sz' then Lt i len ∧ rowAt (f i) j K else False
  | .roA sz' len f, .z => if sz == sz' then Lt 0 len ∧ rowAt (f 0) j K else False
  | _, _ => False
def ld1 (O : Ops) (s : SS) (x : SV) (K : SV → Prop) : Prop :=
  match x with
  | .ptr b i sz j => match s.h[b]? with
    | some B => ldB O B i sz j K
    | none => False
  | _ => False
/-- n cells on end are read. -/
def ldN (O : Ops) (s : SS) (b : Nat) (i : Ix) (sz : Nat) : Nat → Nat → (List SV → Prop) → Prop
  | 0, _, K => K []
  | n + 1, j, K => ld1 O s (.ptr b i sz j) (fun v => ldN O s b i sz n (j + 1) (fun vs => K (v :: vs)))
def kEq (a b : IntKind) : Bool :=
  match a, b with
  | .i8, .i8 | .i16, .i16 | .i32, .i32 | .i64, .i64 | .u8, .u8 | .u16, .u16 | .u32, .u32 | .u64, .u64 => true
  | _, _ => false
def intOf (k : IntKind) (v : SV) (K : Int → Prop) : Prop :=
  match v with
  | .lit k' n => if kEq k k' then K n else False
  | .int k' n => if kEq k k' then K n else False
  | _ => False
def one1 (u : Value) : Bool :=
  match u with
  | .pointer none => true
  | .slice none 0 0 => true
  | .nilFunc => true
  | .nilIface => true
  | _ => false
def one (v : SV) : Bool :=
  match v with
  | .agg _ => false
  | .tup _ => false
  | .undef => false
  | .val u => one1 u
  | _ => true
def stB (O : Ops) (B : SB) (i : Ix) (sz j : Nat) (v : SV) (K : SB → Prop) : Prop :=
  match B, i with
  | .one t row, .z => if one v then (if j < row.length then K (.one t (row.set j v)) else False) else False
  | .ints t k l, .z => match sz, j with
    | 1, 0 => intOf k v (fun n => Lt 0 (O.ln l) ∧ K (.ints t k (O.st l 0 n)))
    | _, j => intOf k v (fun n => Lt j (O.ln l) ∧ K (.ints t k (O.st l j n)))
  | .ints t k l, .n i => match sz, j with
    | 1, 0 => intOf k v (fun n => Lt i (O.ln l) ∧ K (.ints t k (O.st l i n)))
    | _, _ => False
  | .buf t k l c, .z => match sz, j with
    | 1, 0 => intOf k v (fun n => Lt 0 (O.ln l) ∧ K (.buf t k (O.st l 0 n) c))
    | _, j => intOf k v (fun n => Lt j (O.ln l) ∧ K (.buf t k (O.st l j n) c))
  | .buf t k l c, .n i => match sz, j with
    | 1, 0 => intOf k v (fun n => Lt i (O.ln l) ∧ K (.buf t k (O.st l i n) c))
    | _, _ => False
  | .arr t sz' len f, .n i => if sz == sz' then (if one v then (if j < sz then Lt i len ∧ K (.arr t sz' len (fun m => if m = i then (f m).set j v else f m)) else False) else False) else False
  | _, _ => False
def st1 (O : Ops) (s : SS) (x v : SV) (K : SS → Prop) : Prop :=
  match x with
  | .ptr b i sz j => match s.h[b]? with
    | some B => stB O B i sz j v (fun B' => K { s with h := s.h.set b B' })
    | none => False
  | _ => False
def stN (O : Ops) (b : Nat) (i : Ix) (sz : Nat) : List SV → Nat → SS → (SS → Prop) → Prop
  | [], _, s, K => K s
  | v :: vs, j, s, K => st1 O s (.ptr b i sz j) v (fun s' => stN O b i sz vs (j + 1) s' K)
/-- A new block. -/
def alloc (B : SB) (s : SS) : SS := { s with h := s.h ++ [B] }

def addIx (O : Ops) (i : Ix) (m : Nat) : Ix :=
  match i with
  | .z => .n m
  | .n i => .n (O.addN i m)
def ixN (i : Ix) : Nat :=
  match i with
  | .z => 0
  | .n i => i
def litN (v : SV) (K : Int → Prop) : Prop :=
  match v with
  | .lit _ n => K n
  | .int _ n => K n
  | _ => False
/-- The cells of a value that is known to be of one cell, or an aggregate. -/
def cellsP (v : SV) (K : List SV → Prop) : Prop :=
  match v with
  | .agg cs => K cs
  | .val u => match u with
    | .pointer none => K [.val (.pointer none)]
    | .slice none 0 0 => K [.val (.slice none 0 0)]
    | .nilFunc => K [.val .nilFunc]
    | .nilIface => K [.val .nilIface]
    | _ => False
  | .undef => False
  | .tup _ => False
  | v => K [v]
def setN (row : List SV) (off : Nat) : List SV → List SV
  | [] => row
  | c :: cs => setN (row.set off c) (off + 1) cs
def fillP (s : SS) : List Part → List SV → (List SV → Prop) → Prop
  | [], row, K => K row
  | p :: ps, row, K => cellsP (ev s p.x) (fun cs =>
    if cs.length == p.sz then (if p.off + p.sz ≤ row.length then fillP s ps (setN row p.off cs) K else False) else False)
def rowInts (k : IntKind) : List SV → (List Int → Prop) → Prop
  | [], K => K []
  | v :: vs, K => intOf k v (fun n => rowInts k vs (fun ns => K (n :: ns)))
def mulB (a b : Nat) : Nat := a * b
def litRow (k : IntKind) : Nat → List SV
  | 0 => []
  | n + 1 => .lit k 0 :: litRow k n
def repRow (row : List SV) : Nat → List SV
  | 0 => []
  | n + 1 => row ++ repRow row n
/-- The numbers that a slice of integers reads as. -/
def srcI (O : Ops) (s : SS) (k : IntKind) (v : SV) (K : List Int → Nat → Prop) : Prop :=
  match v with
  | .slice b i 1 len _ => match s.h[b]? with
    | some (.ints _ k' l) => if kEq k k' then Le (O.addN (ixN i) len) (O.ln l) ∧ K (O.sub l (ixN i) len) len else False
    | some (.buf _ k' l _) => if kEq k k' then Le (O.addN (ixN i) len) (O.ln l) ∧ K (O.sub l (ixN i) len) len else False
    | some (.ro k' l) => if kEq k k' then Le (O.addN (ixN i) len) (O.ln l) ∧ K (O.sub l (ixN i) len) len else False
    | _ => False
  | .val (.slice none 0 0) => K [] 0
  | _ => False
/-- The name b goes over to another block. -/
def over (b : Nat) (B : SB) (js : Nat → Nat → Value) (s : SS) : SS := { scr [b] js s with h := (scr [b] js s).h.set b B, r := addR b s.r }
/-- An append of numbers to a slice that begins at its block's head. The block's name goes over to where the result lies. -/
def appT (O : Ops) (s : SS) (e : Nat) (k : IntKind) (bytes : Nat) (dst : SV) (xs : List Int) (m : Nat) (K : SV → SS → Prop) : Prop :=
  match dst with
  | .slice b .z 1 len cap => match s.h[b]? with
    | some (.ints e' k' l) => if e == e' then (if kEq k k' then Le len (O.ln l) ∧ Le cap (O.ln l) ∧ Fits (O.addN len m) bytes ∧
        menH [b] s.h (∀ c js, Le (O.addN len m) c → K (.slice b .z 1 (O.addN len m) c) (over b (.buf e k (O.onto l len xs) c) js s)) else False) else False
    | some (.buf e' k' l cc) => if e == e' then (if kEq k k' then Le len (O.ln l) ∧ Le cap cc ∧ Fits (O.addN len m) bytes ∧
        menH [b] s.h (∀ c js, Le (O.addN len m) c → K (.slice b .z 1 (O.addN len m) c) (over b (.buf e k (O.onto l len xs) c) js s)) else False) else False
    | _ => False
  | .val (.slice none 0 0) => Fits m bytes ∧ scS s (
      ∀ c, Le m c → K (.slice s.h.length .z 1 m c) (alloc (.buf e k xs c) s))
  | _ => False
def bnd (O : Ops) (v : Option SV) (dflt top : Nat) (K : Nat → Prop) : Prop :=
  match v with
  | none => K dflt
  | some v => match v with
    | .lit _ n => InC n top ∧ K n.toNat
    | .int _ n => InC n top ∧ K (O.toN n)
    | _ => False

/-! ### Calls, loops: where the evaluation stops (their meaning: part 2) -/
structure CallR where
  f : Nat
  args : List SV

/-- A pointer into a block that is surely there. -/
def there (s : SS) (b : Nat) (K : Prop) : Prop :=
  match s.h[b]? with
  | some (.one _ _) => K
  | some (.ints _ _ _) => K
  | some (.arr _ _ _ _) => K
  | _ => False
/-- == (or, negated, !=) at: 0 bool, 1 string, 2 a pointer's, 3 a function's type. -/
def eqSV (O : Ops) (s : SS) (neg : Bool) (ty : Nat) (x y : SV) (K : Bool → Prop) : Prop :=
  match ty, x, y with
  | 0, .bool a, .bool b => K (if neg then O.notB (O.eqB a b) else O.eqB a b)
  | 1, .str a, .str b => K (if neg then O.notB (O.strEq a b) else O.strEq a b)
  | 2, .ptr b _ _ _, .val (.pointer none) => there s b (K neg)
  | 2, .val (.pointer none), .ptr b _ _ _ => there s b (K neg)
  | 2, .val (.pointer none), .val (.pointer none) => K (if neg then false else true)
  | 3, .fn _ _, .val .nilFunc => K neg
  | 3, .val .nilFunc, .val .nilFunc => K (if neg then false else true)
  | _, _, _ => False
end Go.Sx
