/-
  The engine, part 2: what the symbols mean; the translation of the model's code into the compact code; the evaluation.
-/
import Derived.Test.YtgbnngjmjimhiaaSx1
namespace Go.Sx
open Go

/-! ### Meaning -/
/-- Where a name lies: a block, and the first cell; or nowhere (a nil slice). -/
abbrev Names := Nat → Option (Nat × Nat)

def mkStr (l : List Int) : ByteArray := ⟨(l.map fun n => UInt8.ofNat n.toNat).toArray⟩
mutual
def den (σ : Names) : SV → Value
  | .undef => undef
  | .val v => v
  | .bool b => .bool b
  | .lit k n => .int k n
  | .int k n => .int k n
  | .str l => .string (mkStr l)
  | .ptr b i sz j => .pointer ((σ b).map fun p => ⟨p.1, p.2 + (ixN i * sz + j), none⟩)
  | .slice b i sz len cap => .slice ((σ b).map fun p => ⟨p.1, p.2 + ixN i * sz, none⟩) len cap
  | .fn f cs => .func (.func f) #[] (denL σ cs).toArray
  | .yield l => .func (.yield (((σ l).map (·.1)).getD 0)) #[] #[]
  | .iface t v => .iface t (den σ v)
  | .agg cs => .agg (denL σ cs).toArray
  | .tup cs => .tuple (denL σ cs).toArray
def denL (σ : Names) : List SV → List Value
  | [] => []
  | v :: l => den σ v :: denL σ l
end

/-! ### The translation -/
def ofV : Value → SV
  | .bool b => .bool b
  | .int k n => .lit k n
  | .string s => .str (s.data.toList.map fun b => (b.toNat : Int))
  | v => .val v
def cO : Operand → Option XO
  | .tmp t => some (.t t)
  | .const v => some (.k (ofV v))
  | .func f => some (.k (.fn f []))
  | .global _ => none
def cOs : List Operand → Option (List XO)
  | [] => some []
  | x :: l => match cO x, cOs l with
    | some y, some ys => some (y :: ys)
    | _, _ => none
def cOO : Option Operand → Option (Option XO)
  | none => some none
  | some x => match cO x with
    | some y => some (some y)
    | none => none
def aggT (P : Program) (t : TypeId) : Option Bool :=
  match P.underlying t with
  | some (.struct _) => some true
  | some (.array _ _) => some true
  | some _ => some false
  | none => none
def sizeT (P : Program) (t : TypeId) : Option Nat := (P.info? t).map (·.size)
def intT (P : Program) (t : TypeId) : Option IntKind :=
  match P.underlying t with
  | some (.int k) => some k
  | _ => none
def zeroT (P : Program) (t : TypeId) : Option (List Value) := (P.info? t).bind fun i => i.zero.map fun v => v.cells.toList
def zero1 (P : Program) (t : TypeId) (k : IntKind) : Bool :=
  match zeroT P t with
  | some [.int k' 0] => kEq k k'
  | _ => false
def allZero (k : IntKind) : List Value → Bool
  | [] => true
  | .int k' 0 :: l => kEq k k' && allZero k l
  | _ => false
def zeroInts (z : Option (List Value)) (k : IntKind) (n : Nat) : Bool :=
  match z with
  | some l => l.length == n && allZero k l
  | none => false
/-- The kind of an array type's elements, where they are integers; how many. -/
def arrI (P : Program) (t : TypeId) : Option (Nat × IntKind) :=
  match P.underlying t with
  | some (.array n e) => (intT P e).map fun k => (n, k)
  | _ => none
def cParts (place : Nat → Option (Nat × Nat)) : List (Nat × Operand) → Option (List Part)
  | [] => some []
  | (i, x) :: l => match place i, cO x, cParts place l with
    | some (off, sz), some y, some ps => some (⟨off, sz, y⟩ :: ps)
    | _, _, _ => none
def placesT (P : Program) : List Field → Option (List (Nat × Nat))
  | [] => some []
  | f :: l => match sizeT P f.type, placesT P l with
    | some n, some r => some ((f.offset, n) :: r)
    | _, _ => none
def eqT (P : Program) (t : TypeId) : Option Nat :=
  match P.underlying t with
  | some .bool => some 0
  | some .string => some 1
  | some (.pointer _) => some 2
  | some (.func _ _ _) => some 3
  | _ => none
/-- The operations that only compute. -/
def cPure (P : Program) (o : Oper) : Option XOp :=
  match o.op with
  | .move x | .assign x => (cO x).map .mv
  | .pick c a b => match cO c, cO a, cO b with
    | some c, some a, some b => some (.pick c a b)
    | _, _, _ => none
  | .build t parts => match zeroT P t, P.underlying t with
    | some z, some (.struct fs) => match placesT P fs.toList with
      | some r => (cParts (fun i => r[i]?) parts.toList).map (.build (z.map ofV))
      | none => none
    | some z, some (.array _ e) => match sizeT P e with
      | some n => (cParts (fun i => some (i * n, n)) parts.toList).map (.build (z.map ofV))
      | none => none
    | _, _ => none
  | .nilCheck x => (cO x).map .nilchk
  | .binOp op xt x y _ => match cO x, cO y with
    | some x, some y => match intT P xt with
      | some k => if isCmp op then some (.cmp op x y) else some (.bin op k x y)
      | none => match eqT P xt, op with
        | some ty, .eql => some (.eqv false ty x y)
        | some ty, .neq => some (.eqv true ty x y)
        | _, _ => none
    | _, _ => none
  | .unOp op xt x => match cO x with
    | some x => match op with
      | .not => some (.not x)
      | .neg => (intT P xt).map fun k => .neg k x
      | .xor => (intT P xt).map fun k => .cpl k x
      | _ => none
    | none => none
  | .convert src dst x => match cO x with
    | some x => match P.underlying src, P.underlying dst with
      | some (.int _), some (.int k) => some (.conv k x)
      | some .string, some .string => some (.mvS x)
      | _, _ => none
    | none => none
  | .makeInterface t x => match P.underlying t, cO x with
    | some (.interface _), _ => none
    | some _, some x => some (.mkif t x)
    | _, _ => none
  | .makeFunc (.func f) first captured => if first.isEmpty then (cOs captured.toList).map (.mkfn f) else none
  | .slice t x lo hi mx => match cO x, cOO lo, cOO hi, cOO mx with
    | some x, some lo, some hi, some mx => match P.underlying t with
      | some (.slice e) => (sizeT P e).map fun n => .slc n x lo hi mx
      | some (.array m e) => (sizeT P e).map fun n => .slcA m n x lo hi mx
      | _ => none
    | _, _, _, _ => none
  | .fieldAddr s x f => match cO x, P.underlying s with
    | some x, some (.struct fs) => match fs[f]? with
      | some g => match sizeT P g.type with
        | some (_ + 1) => some (.fadr g.offset x)
        | _ => none
      | none => none
    | _, _ => none
  | .field t x f => match cO x, P.underlying t with
    | some x, some (.struct fs) => match fs[f]? with
      | some g => match aggT P g.type with
        | some true => (sizeT P g.type).map fun n => .fld g.offset (some n) x
        | some false => some (.fld g.offset none x)
        | none => none
      | none => none
    | _, _ => none
  | .index t x i => match cO x, cO i, P.underlying t with
    | some x, some i, some .string => some (.idxS x i)
    | _, _, _ => none
  | .indexAddr t x i => match cO x, cO i with
    | some x, some i => match P.underlying t with
      | some (.slice e) => (sizeT P e).map fun n => .iadr n x i
      | some (.array m e) => if m ≤ 1 then none else (sizeT P e).map fun n => .iadrA m n x i
      | _ => none
    | _, _ => none
  | .extract x i => (cO x).map fun x => .extract x i
  | .call { callee := .builtin .len, args, argTypes } => match args.toList, argTypes.toList with
    | [x], [t] => match cO x, P.underlying t with
      | some x, some (.slice _) => some (.len x)
      | some x, some .string => some (.lenS x)
      | _, _ => none
    | _, _ => none
  | .call { callee := .builtin .max, args, .. } => match args.toList with
    | [x, y] => match cO x, cO y with
      | some x, some y => some (.max x y)
      | _, _ => none
    | _ => none
  | .call { callee := .builtin .min, args, .. } => match args.toList with
    | [x, y] => match cO x, cO y with
      | some x, some y => some (.min x y)
      | _, _ => none
    | _ => none
  | _ => none
/-- The operations that read memory, and leave it alone. -/
def cLoad (P : Program) (o : Oper) : Option XOp :=
  match o.op with
  | .load t a => match cO a, aggT P t with
    | some a, some true => match sizeT P t with
      | some (n + 1) => some (.loadA (n + 1) a)
      | _ => none
    | some a, some false => some (.load1 a)
    | _, _ => none
  | .convert src dst x => match cO x, P.underlying src, P.underlying dst with
    | some x, some (.slice e), some .string => match P.underlying e with
      | some (.int .u8) => some (.bstr x)
      | _ => none
    | _, _, _ => none
  | _ => none
/-- All others. -/
def cAct (P : Program) (o : Oper) : Option XOp :=
  match o.op with
  | .alloc t => match arrI P t with
    | some (n, k) => if zeroInts (zeroT P t) k n then some (.newI t k n) else none
    | none => (zeroT P t).map fun z => .newR t (z.map ofV)
  | .box t x => match cO x with
    | some x => some (.box t ((arrI P t).map (·.2)) x)
    | none => none
  | .buildSlice t len parts => match P.underlying t with
    | some (.slice e) => match sizeT P e with
      | some sz => if len * sz ≤ 16777216 then match intT P e with
          | some k => if sz = 1 ∧ zero1 P e k = true then (cParts (fun i => some (i, 1)) parts.toList).map (.bsliceI e k len) else none
          | none => if sz = 0 then none else match zeroT P e with
            | some z => if z.length = sz then (cParts (fun i => some (i * sz, sz)) parts.toList).map (.bsliceR e sz len (z.map ofV)) else none
            | none => none
        else none
      | none => none
    | _ => none
  | .store t a v => match cO a, cO v, aggT P t with
    | some a, some v, some true => (sizeT P t).map fun n => .storeA n a v
    | some a, some v, some false => if sizeT P t = some 1 then some (.store1 a v) else none
    | _, _, _ => none
  | .makeSlice t l c => match cO l, cO c, P.underlying t with
    | some l, some c, some (.slice e) => match intT P e, P.info? e with
      | some k, some i => if i.size = 1 ∧ zero1 P e k = true ∧ 1 ≤ i.bytes then some (.mkslI e k i.bytes l c) else none
      | _, _ => none
    | _, _, _ => none
  | .call { callee := .builtin .append, args, argTypes } => match args.toList, argTypes.toList with
    | [s, x], [t, u] => match cO s, cO x, P.underlying t, P.underlying u with
      | some s, some x, some (.slice e), some d => match intT P e, P.info? e with
        | some k, some i => if i.size = 1 ∧ zero1 P e k = true ∧ 1 ≤ i.bytes then (match d with
            | .int _ => some (.appZ e k i.bytes s x)
            | .slice _ => some (.appI e k i.bytes s x)
            | _ => none) else none
        | _, _ => none
      | _, _, _, _ => none
    | _, _ => none
  | .call { callee := .builtin .copy, args, argTypes } => match args.toList, argTypes.toList with
    | [s, x], t :: _ => match cO s, cO x, P.underlying t with
      | some s, some x, some (.slice e) => match intT P e with
        | some _ => if sizeT P e = some 1 then some (.copyI s x) else none
        | none => none
      | _, _, _ => none
    | _, _ => none
  | .call { callee := .value f, args, .. } => match cO f, cOs args.toList with
    | some f, some xs => some (.call f xs)
    | _, _ => none
  | .panic x => (cO x).map .pnc
  | _ => none
def cOp (P : Program) (o : Oper) : Option XOp :=
  match cPure P o with
  | some x => some x
  | none => match cLoad P o with
    | some x => some x
    | none => cAct P o
def cGuard (ops : Array Oper) : Option (Nat × Bool) → Option (Option (Nat × Bool))
  | none => some none
  | some (j, b) => match (ops[j]?).bind (·.dst) with
    | some d => some (some (d, b))
    | none => none
def cStep (P : Program) (ops : Array Oper) (o : Oper) : Option XStep :=
  match cOp P o, cGuard ops o.guard with
  | some x, some g => some ⟨o.dst, x, g, []⟩
  | _, _ => none
def cPlain (P : Program) (ops : Array Oper) : List Oper → Option (List XStep)
  | [] => some []
  | o :: l => match cStep P ops o, cPlain P ops l with
    | some s, some ss => some (s :: ss)
    | _, _ => none
/-- Does j wait for p? -/
def waits (ops : Array Oper) (j p : Nat) : Bool :=
  match ops[j]? with
  | some o => o.after.any fun e => Region.binds .any e && e.on == p
  | none => false
def isPure (P : Program) (ops : Array Oper) (i : Nat) : Bool :=
  match ops[i]? with
  | some o => (cPure P o).isSome
  | none => false
def isLoad (P : Program) (ops : Array Oper) (i : Nat) : Bool :=
  match ops[i]? with
  | some o => (cPure P o).isNone && (cLoad P o).isSome && (match o.dst with
    | some d => !(o.looksAt ops).contains d
    | none => false)
  | none => false
/-- Does i leave alone what each p of the list looks at and writes? -/
def apartAll (ops : Array Oper) (i : Nat) (pend : List Nat) : Bool :=
  pend.all fun p => match ops[i]?, ops[p]? with
    | some x, some y => (match x.dst with
      | some d => !(y.looksAt ops).contains d && y.dst != some d
      | none => true)
    | _, _ => false
def chkOf (P : Program) (ops : Array Oper) : List Nat → Option (List (XOp × Nat × Option (Nat × Bool)))
  | [] => some []
  | p :: l => match ops[p]? with
    | some o => match cLoad P o, o.dst, cGuard ops o.guard, chkOf P ops l with
      | some x, some d, some g, some cs => some ((x, d, g) :: cs)
      | _, _, _, _ => none
    | none => none
/-- An order of a region that draws its order: what only computes or reads is taken first; what is left must come up alone. Behind each of the others what was read ahead of it, and need not have been, is looked at again. -/
def linS (P : Program) (ops : Array Oper) : Nat → Array Bool → List Nat → Option (List XStep)
  | 0, listed, _ => if (Region.ready .any ops listed).isEmpty then some [] else none
  | fuel + 1, listed, pend =>
    let rs := Region.ready .any ops listed
    if rs.isEmpty then some [] else
    match rs.find? fun i => (isPure P ops i || isLoad P ops i) && Region.free .any ops listed i && apartAll ops i pend with
    | some i => match ops[i]? with
      | some o => match cStep P ops o, linS P ops fuel (listed.setIfInBounds i true) (if isPure P ops i then pend else i :: pend) with
        | some s, some ss => some (s :: ss)
        | _, _ => none
      | none => none
    | none => match rs with
      | [i] => match ops[i]? with
        | some o => if apartAll ops i (pend.filter fun p => !waits ops i p) then
            match cStep P ops o, chkOf P ops (pend.filter fun p => !waits ops i p), linS P ops fuel (listed.setIfInBounds i true) (pend.filter fun p => !waits ops i p) with
            | some s, some cs, some ss => some ({ s with chk := cs } :: ss)
            | _, _, _ => none
          else none
        | none => none
      | _ => none
def compile (P : Program) : Code → Option XC
  | .skip => some .skip
  | .region _ ops false => (cPlain P ops ops.toList).map .ops
  | .region _ ops true => if ops.all (fun o => (cOp P o).isSome) then (linS P ops ops.size (Array.replicate ops.size false) []).map .ops else none
  | .seq a b => match compile P a, compile P b with
    | some x, some y => some (.seq x y)
    | _, _ => none
  | .cond c a b => match cO c, compile P a, compile P b with
    | some c, some x, some y => some (.cond c x y)
    | _, _, _ => none
  | .block id b => (compile P b).map (.block id)
  | .loop b => (compile P b).map .loop
  | .rangeFunc f ps a b => match cO f, compile P a, compile P b with
    | some f, some x, some y => some (.range f ps.toList x y)
    | _, _, _ => none
  | .exit id => some (.exit id)
  | .ret => some .ret
  | .label _ => some .skip
  | _ => none
end Go.Sx
