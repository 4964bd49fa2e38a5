import Derived.RangeFuncRecord
import Derived.RangeFuncCalls
import Derived.OrdersIn
import Derived.Laws.StructEq
import Derived.ChangeKeysEq
import Derived.Laws.BytesString
import Derived.Laws.Cells
import Derived.Laws.CopyRow
set_option linter.unusedVariables false
set_option linter.unusedSimpArgs false
namespace Go.Sx
open Go

def bV (op:BinOp) (k:IntKind) (x y:Int):Int:=
 match op with
 |.add=>k.wrap (x+y)
 |.sub=>k.wrap (x-y)
 |.mul=>k.wrap (x*y)
 |.quo=>k.wrap (x.tdiv y)
 |.rem=>x.tmod y
 |.and=>k.wrap (BitVec.ofInt k.bits x &&& BitVec.ofInt k.bits y).toNat
 |.or=>k.wrap (BitVec.ofInt k.bits x |||BitVec.ofInt k.bits y).toNat
 |.xor=>k.wrap (BitVec.ofInt k.bits x ^^^ BitVec.ofInt k.bits y).toNat
 |.andNot=>k.wrap (BitVec.ofInt k.bits x &&& ~~~ (BitVec.ofInt k.bits y)).toNat
 |.shl=>k.wrap (x*2^(min y.toNat k.bits))
 |.shr=>x.fdiv (2^(min y.toNat k.bits))
 |_=>0
def cV (op:BinOp) (x y:Int):Bool:=
 match op with
 |.eql=>x==y
 |.neq=>x !=y
 |.lss=>x<y
 |.leq=>x≤y
 |.gtr=>x>y
 |.geq=>x≥y
 |_=>false
def kco (op:BinOp):Bool:=
 match op with
 |.eql=>true
 |.neq=>true
 |.lss=>true
 |.leq=>true
 |.gtr=>true
 |.geq=>true
 |_=>false
structure Ops where
 b:BinOp→IntKind→Int→Int→Int
 c:BinOp→Int→Int→Bool
 w:IntKind→Int→Int
 toN:Int→Nat
 ofN:Nat→Int
 addN:Nat→Nat→Nat
 subN:Nat→Nat→Nat
 maxI:Int→Int→Int
 minI:Int→Int→Int
 cutN:Nat→Nat→Nat→Nat
 gd:List Int→Nat→Int
 st:List Int→Nat→Int→List Int
 ln:List Int→Nat
 rep:Nat→Int→List Int
 sub:List Int→Nat→Nat→List Int
 onto:List Int→Nat→List Int→List Int
 splice:List Int→Nat→List Int→List Int
 strEq:List Int→List Int→Bool
 byteV:Int→Int
 notB:Bool→Bool
 eqB:Bool→Bool→Bool
def std:Ops where
 b:=bV
 c:=cV
 w k x:=k.wrap x
 toN n:=n.toNat
 ofN n:=(n:Int)
 addN a b:=a+b
 subN a b:=a-b
 maxI x y:=if y>x then y else x
 minI x y:=if y<x then y else x
 cutN i l m:=if m=l then i else i+l
 gd l n:=l.getD n 0
 st l n v:=l.set n v
 ln l:=l.length
 rep n v:=List.replicate n v
 sub l i n:=(l.drop i).take n
 onto l n xs:=l.take n++xs
 splice l i xs:=l.take i++xs++l.drop (i+xs.length)
 strEq a b:=a.map (fun n=>UInt8.ofNat n.toNat)==b.map (fun n=>UInt8.ofNat n.toNat)
 byteV n:=((UInt8.ofNat n.toNat).toNat:Int)
 notB b:=!b
 eqB a b:=a==b
structure Lt (a b:Nat):Prop where
 out:a<b
structure Le (a b:Nat):Prop where
 out:a≤b
structure InR (i:Int) (n:Nat):Prop where
 out:0≤i∧i<(n:Int)
structure InC (i:Int) (n:Nat):Prop where
 out:0≤i∧i≤(n:Int)
structure koq (i:Int):Prop where
 out:i≠0
structure qz (i:Int):Prop where
 out:0≤i
structure Fits (n bytes:Nat):Prop where
 out:n*bytes≤140737488355328
structure kc0 (n:Int) (bytes:Nat):Prop where
 out:n*bytes≤281474976710656

inductive Ix where
 |z
 |n (i:Nat)

inductive SV where
 |undef
 |val (v:Value)
 |bool (b:Bool)
 |lit (k:IntKind) (n:Int)
 |int (k:IntKind) (n:Int)
 |str (l:List Int)
 |ptr (b:Nat) (i:Ix) (sz j:Nat)
 |slice (b:Nat) (i:Ix) (sz:Nat) (len cap:Nat)
 |fn (f:Nat) (cs:List SV)
 |yield (l:Nat)
 |iface (t:Nat) (v:SV)
 |agg (cs:List SV)
 |tup (cs:List SV)

inductive XO where
 |t (n:Nat)
 |k (v:SV)

structure Part where
 off:Nat
 sz:Nat
 x:XO

inductive XOp where
 |mv (x:XO)
 |mvS (x:XO)
 |pick (c a b:XO)
 |box (t:Nat) (ik:Option IntKind) (x:XO)
 |newI (t:Nat) (k:IntKind) (n:Nat)
 |newR (t:Nat) (row:List SV)
 |newA (t sz n:Nat) (zero:List SV)
 |build (zero:List SV) (ps:List Part)
 |bsliceI (e:Nat) (k:IntKind) (n:Nat) (ps:List Part)
 |bsliceR (e:Nat) (sz n:Nat) (zero:List SV) (ps:List Part)
 |load1 (x:XO)
 |loadA (sz:Nat) (x:XO)
 |store1 (x v:XO)
 |storeA (sz:Nat) (x v:XO)
 |nilchk (x:XO)
 |bin (op:BinOp) (k:IntKind) (x y:XO)
 |cmp (op:BinOp) (x y:XO)
 |eqv (neg:Bool) (ty:Nat) (x y:XO)
 |eqR (neg:Bool) (n:Nat) (x y:XO)
 |not (x:XO)
 |neg (k:IntKind) (x:XO)
 |cpl (k:IntKind) (x:XO)
 |conv (k:IntKind) (x:XO)
 |bstr (x:XO)
 |fadr (off:Nat) (x:XO)
 |fld (off:Nat) (ag:Option Nat) (x:XO)
 |idxS (x i:XO)
 |idxA (n sz:Nat) (ag:Bool) (x i:XO)
 |iadr (sz:Nat) (x i:XO)
 |iadrA (n sz:Nat) (x i:XO)
 |slc (sz:Nat) (x:XO) (lo hi mx:Option XO)
 |slcA (n sz:Nat) (x:XO) (lo hi mx:Option XO)
 |mkslI (e:Nat) (k:IntKind) (bytes:Nat) (l c:XO)
 |mkslR (e sz bytes:Nat) (zero:List SV) (l c:XO)
 |appI (e:Nat) (k:IntKind) (bytes:Nat) (s x:XO)
 |appZ (e:Nat) (k:IntKind) (bytes:Nat) (s x:XO)
 |appR (e sz bytes:Nat) (s x:XO)
 |copyI (k:IntKind) (s x:XO)
 |nozero (e:Nat) (x:XO)
 |cntB (x c:XO)
 |len (x:XO)
 |lenS (x:XO)
 |cap (x:XO)
 |max (x y:XO)
 |min (x y:XO)
 |mkfn (f:Nat) (cs:List XO)
 |extract (x:XO) (i:Nat)
 |call (f:XO) (args:List XO)
 |icall (nm:String) (x:XO) (args:List XO)
 |mkif (t:Nat) (x:XO)
 |tas (t:Nat) (x:XO)
 |pnc (x:XO)

structure j3 where
 dst:Option Nat
 op:XOp
 guard:Option (Nat×Bool)
 chk:List (XOp×Nat×Option (Nat×Bool))

inductive XT where
 |fin
 |step (s:j3) (t:XT)
 |both (a b:XT)

inductive XC where
 |skip
 |ops (l:List j3)
 |tree (t:XT)
 |seq (a b:XC)
 |cond (c:XO) (a b:XC)
 |block (id:Nat) (b:XC)
 |loop (b:XC)
 |scope (b:XC)
 |range (f:XO) (ps:List Nat) (asg body:XC)
 |exit (id:Nat)
 |ret
 |bad

inductive XE where
 |normal
 |exit (id:Nat)
 |ret
 |panic (v:SV)

inductive LSt where
 |ready|busy|done|exhausted

inductive SB where
 |free
 |one (t:Nat) (row:List SV)
 |ints (t:Nat) (k:IntKind) (l:List Int)
 |buf (t:Nat) (k:IntKind) (l:List Int) (c:Nat)
 |arr (t:Nat) (sz len:Nat) (f:Nat→List SV)
 |bufR (t sz:Nat) (row:List SV) (c:Nat)
 |bufA (t sz len:Nat) (f:Nat→List SV) (c:Nat)
 |ro (k:IntKind) (l:List Int)
 |roA (sz len:Nat) (f:Nat→List SV)
 |loop (s:LSt) (pend:Option XE) (t:List SV) (ps:List Nat) (asg body:XC)
 |defd

inductive CB where
 |ints (k:IntKind) (l:List Int)
 |rows (sz len:Nat) (f:Nat→List Value)
structure SS where
 t:List SV
 h:List SB
 r:List Nat
 d:List Nat
 rd:Option Nat
 x:List Deferred:=[]
 c:Nat→Option CB:=fun _=>none

def ev (s:SS):XO→SV
 |.t n=>s.t.getD n .undef
 |.k v=>v

def put (d:Option Nat) (v:SV) (s:SS):SS:=
 match d with
 |some d=>{ s with t:=s.t.set d v }
 |none=>s

def ka4 (n:Nat):List Nat→Bool
 |[]=>false
 |m::l=>if n==m then true else ka4 n l
mutual
def men (R:List Nat):SV→Bool
 |.ptr b _ _ _=>ka4 b R
 |.slice b _ _ _ _=>ka4 b R
 |.yield l=>ka4 l R
 |.fn _ cs=>menL R cs
 |.iface _ v=>men R v
 |.agg cs=>menL R cs
 |.tup cs=>menL R cs
 |_=>false
def menL (R:List Nat):List SV→Bool
 |[]=>false
 |v::l=>if men R v then true else menL R l
end
def ka6 (R:List Nat) (js:Nat→Value):Nat→List SV→List SV
 |_,[]=>[]
 |i,v::l=>(if men R v then .val (js i) else v)::ka6 R js (i+1) l
def kfX (R:List Nat) (js:Nat→Value):SB→SB
 |.one t row=>.one t (ka6 R js 0 row)
 |.bufR t sz row c=>.bufR t sz (ka6 R js 0 row) c
 |.loop s p t ps a b=>.loop s p (ka6 R js 0 t) ps a b
 |b=>b
def ka7 (R:List Nat) (js:Nat→Nat→Value):Nat→List SB→List SB
 |_,[]=>[]
 |i,b::l=>kfX R (js (i+1)) b::ka7 R js (i+1) l
def kd0 (R:List Nat) (B:SB) (K:Prop):Prop:=
 match B with
 |.arr _ _ _ f=>(∀i,menL R (f i)=false)∧K
 |.roA _ _ f=>(∀i,menL R (f i)=false)∧K
 |.bufA _ _ _ f _=>(∀i,menL R (f i)=false)∧K
 |_=>K
def kcp (R:List Nat):List SB→Prop→Prop
 |[],K=>K
 |B::l,K=>kd0 R B (kcp R l K)
def scr (R:List Nat) (js:Nat→Nat→Value) (s:SS):SS:=
 { s with t:=ka6 R (js 0) 0 s.t,h:=ka7 R js 0 s.h }
def kfY (n:Nat) (R:List Nat):List Nat:=if ka4 n R then R else n::R

def ltB (a b:Nat):Bool:=decide (a<b)
mutual
def scV (n:Nat):SV→Bool
 |.ptr b _ _ _=>ltB b n
 |.slice b _ _ _ _=>ltB b n
 |.yield l=>ltB l n
 |.fn _ cs=>scL n cs
 |.iface _ v=>scV n v
 |.agg cs=>scL n cs
 |.tup cs=>scL n cs
 |_=>true
def scL (n:Nat):List SV→Bool
 |[]=>true
 |v::l=>if scV n v then scL n l else false
end
def scB (n:Nat) (B:SB) (K:Prop):Prop:=
 match B with
 |.one _ row=>if scL n row then K else False
 |.bufR _ _ row _=>if scL n row then K else False
 |.arr _ _ _ f=>(∀i,scL n (f i)=true)∧K
 |.roA _ _ f=>(∀i,scL n (f i)=true)∧K
 |.bufA _ _ _ f _=>(∀i,scL n (f i)=true)∧K
 |.loop _ _ t _ _ _=>if scL n t then K else False
 |_=>K
def scH (n:Nat):List SB→Prop→Prop
 |[],K=>K
 |B::l,K=>scB n B (scH n l K)
def scS (s:SS) (K:Prop):Prop:=if scL s.h.length s.t then scH s.h.length s.h K else False

def rowAt (row:List SV) (j:Nat) (K:SV→Prop):Prop:=
 match row[j]? with
 |some v=>K v
 |none=>False
def ldB (O:Ops) (B:SB) (i:Ix) (sz j:Nat) (K:SV→Prop):Prop:=
 match B,i with
 |.one _ row,.z=>rowAt row j K
 |.one _ row,.n i=>rowAt row (i*sz+j) K
 |.ints _ k l,.z=>match sz,j with
  |1,0=>Lt 0 (O.ln l)∧K (.int k (O.gd l 0))
  |_,j=>Lt j (O.ln l)∧K (.int k (O.gd l j))
 |.ints _ k l,.n i=>match sz,j with
  |1,0=>Lt i (O.ln l)∧K (.int k (O.gd l i))
  |_,_=>False
 |.buf _ k l _,.z=>match sz,j with
  |1,0=>Lt 0 (O.ln l)∧K (.int k (O.gd l 0))
  |_,j=>Lt j (O.ln l)∧K (.int k (O.gd l j))
 |.buf _ k l _,.n i=>match sz,j with
  |1,0=>Lt i (O.ln l)∧K (.int k (O.gd l i))
  |_,_=>False
 |.ro k l,.z=>match sz,j with
  |1,0=>Lt 0 (O.ln l)∧K (.int k (O.gd l 0))
  |_,_=>False
 |.ro k l,.n i=>match sz,j with
  |1,0=>Lt i (O.ln l)∧K (.int k (O.gd l i))
  |_,_=>False
 |.arr _ sz' len f,.n i=>if sz==sz' then Lt i len∧rowAt (f i) j K else False
 |.arr _ sz' len f,.z=>if sz==sz' then Lt 0 len∧rowAt (f 0) j K else False
 |.bufR _ sz' row _,.n i=>if sz==sz' then rowAt row (i*sz+j) K else False
 |.bufR _ sz' row _,.z=>if sz==sz' then rowAt row j K else False
 |.roA sz' len f,.n i=>if sz==sz' then Lt i len∧rowAt (f i) j K else False
 |.roA sz' len f,.z=>if sz==sz' then Lt 0 len∧rowAt (f 0) j K else False
 |.bufA _ sz' len f _,.n i=>if sz==sz' then Lt i len∧rowAt (f i) j K else False
 |.bufA _ sz' len f _,.z=>if sz==sz' then Lt 0 len∧rowAt (f 0) j K else False
 |_,_=>False
def ld1 (O:Ops) (s:SS) (x:SV) (K:SV→Prop):Prop:=
 match x with
 |.ptr b i sz j=>match s.h[b]? with
  |some B=>ldB O B i sz j K
  |none=>False
 |_=>False
def ldN (O:Ops) (s:SS) (b:Nat) (i:Ix) (sz:Nat):Nat→Nat→(List SV→Prop)→Prop
 |0,_,K=>K []
 |n+1,j,K=>ld1 O s (.ptr b i sz j) (fun v=>ldN O s b i sz n (j+1) (fun vs=>K (v::vs)))
def kEq (a b:IntKind):Bool:=
 match a,b with
 |.i8,.i8|.i16,.i16|.i32,.i32|.i64,.i64|.u8,.u8|.u16,.u16|.u32,.u32|.u64,.u64=>true
 |_,_=>false
def intOf (k:IntKind) (v:SV) (K:Int→Prop):Prop:=
 match v with
 |.lit k' n=>if kEq k k' then K n else False
 |.int k' n=>if kEq k k' then K n else False
 |_=>False
def kor (u:Value):Bool:=
 match u with
 |.pointer none=>true
 |.slice none 0 0=>true
 |.nilFunc=>true
 |.nilIface=>true
 |.slice (some _) _ _=>true
 |_=>false
def one (v:SV):Bool:=
 match v with
 |.agg _=>false
 |.tup _=>false
 |.undef=>false
 |.val u=>kor u
 |_=>true
@[irreducible] def kfZ (f:Nat→List SV) (i j:Nat) (v:SV):Nat→List SV:=fun m=>if m=i then(f m).set j v else f m
@[irreducible] def q6 (f:Nat→Int) (i:Nat) (n:Int):Nat→Int:=fun m=>if m=i then n else f m
theorem j4 (f:Nat→List SV) (i j:Nat) (v:SV) (m:Nat):kfZ f i j v m=if m=i then(f m).set j v else f m:=by unfold kfZ;rfl
theorem kU (f:Nat→Int) (i:Nat) (n:Int) (m:Nat):q6 f i n m=if m=i then n else f m:=by unfold q6;rfl
@[irreducible] def knV (f:Nat→List SV) (i:Nat) (row:List SV):Nat→List SV:=fun m=>if m=i then row else f m
@[irreducible] def kld (f:Nat→List SV) (n:Nat) (g:Nat→List SV):Nat→List SV:=fun m=>if m<n then f m else g (m-n)
@[irreducible] def kip (f:Nat→List SV) (n:Nat):Nat→List SV:=fun m=>f (n+m)
theorem kje (f:Nat→List SV) (i:Nat) (row:List SV) (m:Nat):knV f i row m=if m=i then row else f m:=by unfold knV;rfl
theorem kgE (f:Nat→List SV) (n:Nat) (g:Nat→List SV) (m:Nat):kld f n g m=if m<n then f m else g (m-n):=by unfold kld;rfl
theorem kjU (f:Nat→List SV) (n m:Nat):kip f n m=f (n+m):=by unfold kip;rfl
theorem kgF (k:IntKind) (a:Nat→Int) (b c:Nat→SV) (i:Nat) (n:Int):kfZ (fun m=>[.int k (a m),b m,c m]) i 0 (.int k n)=fun m=>[.int k (q6 a i n m),b m,c m]:=by
 funext m;rw[j4,kU];split<;>rfl
theorem kle (k:IntKind) (b:Nat→Int) (a c:Nat→SV) (i:Nat) (n:Int):kfZ (fun m=>[a m,.int k (b m),c m]) i 1 (.int k n)=fun m=>[a m,.int k (q6 b i n m),c m]:=by
 funext m;rw[j4,kU];split<;>rfl
theorem klf (k:IntKind) (c:Nat→Int) (a b:Nat→SV) (i:Nat) (n:Int):kfZ (fun m=>[a m,b m,.int k (c m)]) i 2 (.int k n)=fun m=>[a m,b m,.int k (q6 c i n m)]:=by
 funext m;rw[j4,kU];split<;>rfl
def stB (O:Ops) (B:SB) (i:Ix) (sz j:Nat) (v:SV) (K:SB→Prop):Prop:=
 match B,i with
 |.one t row,.z=>if one v then(if j<row.length then K (.one t (row.set j v)) else False) else False
 |.one t row,.n i=>if one v then(if i*sz+j<row.length then K (.one t (row.set (i*sz+j) v)) else False) else False
 |.ints t k l,.z=>match sz,j with
  |1,0=>intOf k v (fun n=>Lt 0 (O.ln l)∧K (.ints t k (O.st l 0 n)))
  |_,j=>intOf k v (fun n=>Lt j (O.ln l)∧K (.ints t k (O.st l j n)))
 |.ints t k l,.n i=>match sz,j with
  |1,0=>intOf k v (fun n=>Lt i (O.ln l)∧K (.ints t k (O.st l i n)))
  |_,_=>False
 |.buf t k l c,.z=>match sz,j with
  |1,0=>intOf k v (fun n=>Lt 0 (O.ln l)∧K (.buf t k (O.st l 0 n) c))
  |_,j=>intOf k v (fun n=>Lt j (O.ln l)∧K (.buf t k (O.st l j n) c))
 |.buf t k l c,.n i=>match sz,j with
  |1,0=>intOf k v (fun n=>Lt i (O.ln l)∧K (.buf t k (O.st l i n) c))
  |_,_=>False
 |.arr t sz' len f,.n i=>if sz==sz' then(if one v then(if j<sz then Lt i len∧K (.arr t sz' len (kfZ f i j v)) else False) else False) else False
 |.bufR t sz' row c,.n i=>if sz==sz' then(if one v then(if i*sz+j<row.length then K (.bufR t sz' (row.set (i*sz+j) v) c) else False) else False) else False
 |.bufR t sz' row c,.z=>if sz==sz' then(if one v then(if j<row.length then K (.bufR t sz' (row.set j v) c) else False) else False) else False
 |.bufA t sz' len f c,.n i=>if sz==sz' then(if one v then(if j<sz then Lt i len∧K (.bufA t sz' len (kfZ f i j v) c) else False) else False) else False
 |_,_=>False
def st1 (O:Ops) (s:SS) (x v:SV) (K:SS→Prop):Prop:=
 match x with
 |.ptr b i sz j=>match s.h[b]? with
  |some B=>stB O B i sz j v (fun B'=>K { s with h:=s.h.set b B' })
  |none=>False
 |_=>False
def stN (O:Ops) (b:Nat) (i:Ix) (sz:Nat):List SV→Nat→SS→(SS→Prop)→Prop
 |[],_,s,K=>K s
 |v::vs,j,s,K=>st1 O s (.ptr b i sz j) v (fun s'=>stN O b i sz vs (j+1) s' K)
def alloc (B:SB) (s:SS):SS:={ s with h:=s.h++[B] }

def ka8 (O:Ops) (i:Ix) (m:Nat):Ix:=
 match i with
 |.z=>.n m
 |.n i=>.n (O.addN i m)
def ixN (i:Ix):Nat:=
 match i with
 |.z=>0
 |.n i=>i
def kjV (v:SV) (K:Int→Prop):Prop:=
 match v with
 |.lit _ n=>K n
 |.int _ n=>K n
 |_=>False
def kal (v:SV) (K:List SV→Prop):Prop:=
 match v with
 |.agg cs=>K cs
 |.val u=>match u with
  |.pointer none=>K [.val (.pointer none)]
  |.slice none 0 0=>K [.val (.slice none 0 0)]
  |.nilFunc=>K [.val .nilFunc]
  |.nilIface=>K [.val .nilIface]
  |.slice (some a) l c=>K [.val (.slice (some a) l c)]
  |_=>False
 |.undef=>False
 |.tup _=>False
 |v=>K [v]
def kgG (row:List SV) (off:Nat):List SV→List SV
 |[]=>row
 |c::cs=>kgG (row.set off c) (off+1) cs
def kcq (s:SS):List Part→List SV→(List SV→Prop)→Prop
 |[],row,K=>K row
 |p::ps,row,K=>kal (ev s p.x) (fun cs=>
  if cs.length==p.sz then(if p.off+p.sz≤row.length then kcq s ps (kgG row p.off cs) K else False) else False)
def q8 (k:IntKind):List SV→(List Int→Prop)→Prop
 |[],K=>K []
 |v::vs,K=>intOf k v (fun n=>q8 k vs (fun ns=>K (n::ns)))
def kf0 (row:List SV):Nat→List SV
 |0=>[]
 |n+1=>row++kf0 row n
def klg (v:SV):Option (Nat×Nat):=
 match v with
 |.val (.slice (some a) len _)=>match a with
  |⟨b,0,none⟩=>some (b,len)
  |_=>none
 |_=>none
def kf1 (O:Ops) (s:SS) (k:IntKind) (v:SV) (K:List Int→Nat→Prop):Prop:=
 match v with
 |.slice b i 1 len _=>match s.h[b]? with
  |some (.ints _ k' l)=>if kEq k k' then Le (O.addN (ixN i) len) (O.ln l)∧K (O.sub l (ixN i) len) len else False
  |some (.buf _ k' l _)=>if kEq k k' then Le (O.addN (ixN i) len) (O.ln l)∧K (O.sub l (ixN i) len) len else False
  |some (.ro k' l)=>if kEq k k' then Le (O.addN (ixN i) len) (O.ln l)∧K (O.sub l (ixN i) len) len else False
  |_=>False
 |.val (.slice none 0 0)=>K [] 0
 |v=>match klg v with
  |some (b,len)=>∃l,s.c b=some (.ints k l)∧Le len (O.ln l)∧K (O.sub l 0 len) len
  |none=>False
def over (b:Nat) (B:SB) (js:Nat→Nat→Value) (s:SS):SS:={ scr [b] js s with h:=(scr [b] js s).h.set b B,r:=kfY b s.r }
def kd1 (R:List Nat) (jv:SV→Value):List SV→List SV
 |[]=>[]
 |v::l=>(if men R v then .val (jv v) else v)::kd1 R jv l
def knG (R:List Nat) (jv:SV→Value):SB→SB
 |.one t row=>.one t (kd1 R jv row)
 |.bufR t sz row c=>.bufR t sz (kd1 R jv row) c
 |.loop s p t ps a b=>.loop s p (kd1 R jv t) ps a b
 |b=>b
def kjf (R:List Nat) (jv:SV→Value):List SB→List SB
 |[]=>[]
 |b::l=>knG R jv b::kjf R jv l
def kjg (b:Nat) (B:SB) (jv:SV→Value) (s:SS):SS:={ s with t:=kd1 [b] jv s.t,h:=(kjf [b] jv s.h).set b B,r:=kfY b s.r }
def kiq (O:Ops) (s:SS) (e:Nat) (k:IntKind) (bytes:Nat) (dst:SV) (xs:List Int) (m:Nat) (K:SV→SS→Prop):Prop:=
 match dst with
 |.slice b .z 1 len cap=>match s.h[b]? with
  | some (.ints e' k' l)=>if e==e' then(if kEq k k' then Le len (O.ln l)∧Le cap (O.ln l)∧Fits (O.addN len m) bytes ∧
    kcp [b] s.h (∀c jv,Le (O.addN len m) c→K (.slice b .z 1 (O.addN len m) c) (kjg b (.buf e k (O.onto l len xs) c) jv s)) else False) else False
  | some (.buf e' k' l cc)=>if e==e' then(if kEq k k' then Le len (O.ln l)∧Le cap cc∧Fits (O.addN len m) bytes ∧
    kcp [b] s.h (∀c jv,Le (O.addN len m) c→K (.slice b .z 1 (O.addN len m) c) (kjg b (.buf e k (O.onto l len xs) c) jv s)) else False) else False
  |_=>False
 | .val (.slice none 0 0)=>Fits m bytes∧scS s (
   ∀c,Le m c→K (.slice s.h.length .z 1 m c) (alloc (.buf e k xs c) s))
 |_=>False
def kir (s:SS) (sz:Nat) (v:SV) (K:List SV→Nat→Prop):Prop:=
 match v with
 |.slice b i sz' len _=>if sz==sz' then(match s.h[b]? with
  |some (.bufR _ _ row _)=>if (ixN i+len)*sz≤row.length then K ((row.drop (ixN i*sz)).take (len*sz)) len else False
  |_=>False) else False
 |.val (.slice none 0 0)=>K [] 0
 |_=>False
def kam:List SV→Bool
 |[]=>true
 |v::l=>if one v then kam l else false
def appR (s:SS) (e sz bytes:Nat) (dst:SV) (xs:List SV) (m:Nat) (K:SV→SS→Prop):Prop:=
 match dst with
 |.slice b .z sz' len cap=>if sz==sz' then(match s.h[b]? with
  | some (.bufR e' sz2 row cc)=>if e==e'&&sz==sz2 then(if menL [b] xs then False else(if menL [b] row then False else(if kam xs then(if len*sz≤row.length then Le cap cc∧Fits (len+m) bytes ∧
    kcp [b] s.h (∀c js,Le (len+m) c→K (.slice b .z sz (len+m) c) (over b (.bufR e sz (row.take (len*sz)++xs) c) js s)) else False) else False))) else False
  |_=>False) else False
 | .val (.slice none 0 0)=>Fits m bytes∧scS s (if scL s.h.length xs then
   ∀c,Le m c→K (.slice s.h.length .z sz m c) (alloc (.bufR e sz xs c) s) else False)
 |_=>False
def shF (i:Ix) (f:Nat→List SV):Nat→List SV:=
 match i with
 |.z=>f
 |.n n=>kip f n
def kjW (O:Ops) (s:SS) (sz:Nat) (v:SV) (K1:List SV→Prop) (K:(Nat→List SV)→Nat→Prop):Prop:=
 match v with
 | .slice b i sz' len _=>if sz==sz' then(match s.h[b]? with
  |some (.bufR _ _ row _)=>(match len with
   |1=>if (ixN i+1)*sz≤row.length then K1 ((row.drop (ixN i*sz)).take sz) else False
   |_=>False)
  |some (.arr _ sz2 n f)=>if sz==sz2 then Le (O.addN (ixN i) len) n∧K (shF i f) len else False
  |some (.bufA _ sz2 n f _)=>if sz==sz2 then Le (O.addN (ixN i) len) n∧K (shF i f) len else False
  |some (.roA sz2 n f)=>if sz==sz2 then Le (O.addN (ixN i) len) n∧K (shF i f) len else False
  |_=>False) else False
 |_=>False
def klh (s:SS) (v:SV):Bool:=
 match v with
 |.slice b _ _ _ _=>match s.h[b]? with
  |some (.arr _ _ _ _)=>true
  |some (.bufA _ _ _ _ _)=>true
  |some (.roA _ _ _)=>true
  |_=>false
 |_=>false
def knW (s:SS) (dst src:SV):Bool:=
 match klh s dst with
 |true=>true
 |false=>klh s src
def kis (O:Ops) (s:SS) (e sz bytes:Nat) (dst:SV) (m:Nat) (g:Nat→List SV) (F:(Nat→List SV)→Nat→Nat→List SV) (K:SV→SS→Prop):Prop:=
 match dst with
 | .slice b .z sz' len cap=>if sz==sz' then(match s.h[b]? with
  | some (.bufA e' sz2 n f cc)=>if e==e'&&sz==sz2 then Le len n∧Le cap cc∧Fits (O.addN len m) bytes∧(∀i,menL [b] (g i)=false)∧(∀i,kam (g i)=true) ∧
    kcp [b] s.h (∀c js,Le (O.addN len m) c→K (.slice b .z sz (O.addN len m) c) (over b (.bufA e sz (O.addN len m) (F f len) c) js s)) else False
  | some (.bufR e' sz2 [] cc)=>if e==e'&&sz==sz2 then(match len with
   |0=>Le cap cc∧Fits m bytes∧(∀i,menL [b] (g i)=false)∧(∀i,kam (g i)=true) ∧
    kcp [b] s.h (∀c js,Le m c→K (.slice b .z sz m c) (over b (.bufA e sz m g c) js s))
   |_=>False) else False
  |_=>False) else False
 | .val (.slice none 0 0)=>Fits m bytes∧(∀i,scL s.h.length (g i)=true)∧(∀i,kam (g i)=true)∧scS s (
   ∀c,Le m c→K (.slice s.h.length .z sz m c) (alloc (.bufA e sz m g c) s))
 |_=>False
def knH (O:Ops) (s:SS) (e sz bytes:Nat) (dst src:SV) (K:SV→SS→Prop):Prop:=
 kjW O s sz src (fun xs=>kis O s e sz bytes dst 1 (fun _=>xs) (fun f n=>knV f n xs) K) (fun g m=>kis O s e sz bytes dst m g (fun f n=>kld f n g) K)
def bnd (O:Ops) (v:Option SV) (dflt top:Nat) (K:Nat→Prop):Prop:=
 match v with
 |none=>K dflt
 |some v=>match v with
  |.lit _ n=>InC n top∧K n.toNat
  |.int _ n=>InC n top∧K (O.toN n)
  |_=>False

structure kpB where
 f:Nat
 args:List SV

def there (s:SS) (b:Nat) (K:Prop):Prop:=
 match s.h[b]? with
 |some (.one _ _)=>K
 |some (.ints _ _ _)=>K
 |some (.arr _ _ _ _)=>K
 |some (.bufR _ _ (_::_) _)=>K
 |some (.bufA _ _ n _ _)=>Lt 0 n∧K
 |some (.roA _ n _)=>Lt 0 n∧K
 |_=>False
@[irreducible] def kit (l:List Int) (n:Int):Int:=((l.filter fun x=>x.toNat.toUInt8==n.toNat.toUInt8).length:Int)
structure kos (l:List Int) (n r:Int):Prop where
 out:r=kit l n
def kc1 (O:Ops) (s:SS) (b:Nat) (K:Prop):Prop:=
 match s.h[b]? with
 |some (.buf _ _ l _)=>Lt 0 (O.ln l)∧K
 |some (.ro _ l)=>Lt 0 (O.ln l)∧K
 |_=>there s b K
def kli (O:Ops) (s:SS) (neg:Bool) (x y:SV) (K:Bool→Prop):Prop:=
 match y with
 |.val (.slice none 0 0)=>match x with
  |.slice b _ _ _ _=>kc1 O s b (K neg)
  |.val (.slice none 0 0)=>K (if neg then false else true)
  |.val (.slice (some _) _ _)=>K neg
  |_=>False
 |_=>False
def kjX (O:Ops) (s:SS) (neg:Bool) (ty:Nat) (x y:SV) (K:Bool→Prop):Prop:=
 match ty,x,y with
 |0,.bool a,.bool b=>K (if neg then O.notB (O.eqB a b) else O.eqB a b)
 |1,.str a,.str b=>K (if neg then O.notB (O.strEq a b) else O.strEq a b)
 |2,.ptr b _ _ _,.val (.pointer none)=>there s b (K neg)
 |2,.val (.pointer none),.ptr b _ _ _=>there s b (K neg)
 |2,.val (.pointer none),.val (.pointer none)=>K (if neg then false else true)
 |3,.fn _ _,.val .nilFunc=>K neg
 |3,.val .nilFunc,.val .nilFunc=>K (if neg then false else true)
 |4,.iface _ _,.val .nilIface=>K neg
 |5,x,y=>kli O s neg x y K
 |_,_,_=>False
end Go.Sx
namespace Go.Sx
open Go

abbrev Names:=Nat→Option (Nat×Nat)

def qd (l:List Int):ByteArray:=⟨(l.map fun n=>UInt8.ofNat n.toNat).toArray⟩
mutual
def den (σ:Names):SV→Value
 |.undef=>undef
 |.val v=>v
 |.bool b=>.bool b
 |.lit k n=>.int k n
 |.int k n=>.int k n
 |.str l=>.string (qd l)
 |.ptr b i sz j=>.pointer ((σ b).map fun p=>⟨p.1,p.2+(ixN i*sz+j),none⟩)
 |.slice b i sz len cap=>.slice ((σ b).map fun p=>⟨p.1,p.2+ixN i*sz,none⟩) len cap
 |.fn f cs=>.func (.func f) #[] (denL σ cs).toArray
 |.yield l=>.func (.yield (((σ l).map (·.1)).getD 0)) #[] #[]
 |.iface t v=>.iface t (den σ v)
 |.agg cs=>.agg (denL σ cs).toArray
 |.tup cs=>.tuple (denL σ cs).toArray
def denL (σ:Names):List SV→List Value
 |[]=>[]
 |v::l=>den σ v::denL σ l
end

def ofV:Value→SV
 |.bool b=>.bool b
 |.int k n=>.lit k n
 |.string s=>.str (s.data.toList.map fun b=>(b.toNat:Int))
 |v=>.val v
def cO:Operand→Option XO
 |.tmp t=>some (.t t)
 |.const v=>some (.k (ofV v))
 |.func f=>some (.k (.fn f []))
 |.global _=>none
def cOs:List Operand→Option (List XO)
 |[]=>some []
 |x::l=>match cO x,cOs l with
  |some y,some ys=>some (y::ys)
  |_,_=>none
def cOO:Option Operand→Option (Option XO)
 |none=>some none
 |some x=>match cO x with
  |some y=>some (some y)
  |none=>none
def kc2 (P:Program) (t:TypeId):Option Bool:=
 match P.underlying t with
 |some (.struct _)=>some true
 |some (.array _ _)=>some true
 |some _=>some false
 |none=>none
def kG (P:Program) (t:TypeId):Option Nat:=(P.info? t).map (·.size)
def kdN (P:Program) (t:TypeId):Option IntKind:=
 match P.underlying t with
 |some (.int k)=>some k
 |_=>none
def jn (P:Program) (t:TypeId):Option (List Value):=(P.info? t).bind fun i=>i.zero.map fun v=>v.cells.toList
def kcr (P:Program) (t:TypeId) (k:IntKind):Bool:=
 match jn P t with
 |some [.int k' 0]=>kEq k k'
 |_=>false
def kdU (k:IntKind):List Value→Bool
 |[]=>true
 |.int k' 0::l=>kEq k k'&&kdU k l
 |_=>false
def kcs (z:Option (List Value)) (k:IntKind) (n:Nat):Bool:=
 match z with
 |some l=>l.length==n&&kdU k l
 |none=>false
def kot (P:Program) (t:TypeId):Option (Nat×IntKind):=
 match P.underlying t with
 |some (.array n e)=>(kdN P e).map fun k=>(n,k)
 |_=>none
def kc3:List Value→List Value→Bool
 |[],[]=>true
 |.int k n::l,.int k' n'::l'=>kEq k k'&&n==n'&&kc3 l l'
 |_,_=>false
def knX (P:Program) (t:TypeId):Option (Nat×Nat×List Value):=
 match P.underlying t with
 |some (.array n e)=>match jn P e,jn P t with
  |some z,some zt=>if 64<zt.length&&kc3 zt (List.replicate n z).flatten then some (n,z.length,z) else none
  |_,_=>none
 |_=>none
def jT (place:Nat→Option (Nat×Nat)):List (Nat×Operand)→Option (List Part)
 |[]=>some []
 |(i,x)::l=>match place i,cO x,jT place l with
  |some (off,sz),some y,some ps=>some (⟨off,sz,y⟩::ps)
  |_,_,_=>none
def kbx (P:Program):List Field→Option (List (Nat×Nat))
 |[]=>some []
 |f::l=>match kG P f.type,kbx P l with
  |some n,some r=>some ((f.offset,n)::r)
  |_,_=>none
def eqT (P:Program) (t:TypeId):Option Nat:=
 match P.underlying t with
 |some .bool=>some 0
 |some .string=>some 1
 |some (.pointer _)=>some 2
 |some (.func _ _ _)=>some 3
 |some (.interface _)=>some 4
 |some (.slice _)=>some 5
 |_=>none
def kby (P:Program):Nat→List Field→Bool
 |_,[]=>true
 | i, f :: l => f.name != "_" && f.offset == i && (kc2 P f.type == some false) && (kdN P f.type).isSome && kby P (i + 1) l
def kf2 (P:Program) (t:TypeId):Option Nat:=
 match P.underlying t with
 |some (.struct fs)=>if kby P 0 fs.toList&&!P.stoodInHeld t&&!P.eqGuardType P.depth t then some fs.size else none
 |some (.array m e)=>if (kc2 P e==some false)&&(kdN P e).isSome&&(kG P e==some 1)&&!P.eqGuardType P.depth t then some m else none
 |_=>none
def kao (P:Program) (o:Oper):Option XOp:=
 match o.op with
 |.move x|.assign x=>(cO x).map .mv
 |.pick c a b=>match cO c,cO a,cO b with
  |some c,some a,some b=>some (.pick c a b)
  |_,_,_=>none
 | .build t parts=>match jn P t,P.underlying t with
  |some z,some (.struct fs)=>match kbx P fs.toList with
   |some r=>(jT (fun i=>r[i]?) parts.toList).map (.build (z.map ofV))
   |none=>none
  |some z,some (.array _ e)=>match kG P e with
   |some n=>(jT (fun i=>some (i*n,n)) parts.toList).map (.build (z.map ofV))
   |none=>none
  |_,_=>none
 |.nilCheck x=>(cO x).map .nilchk
 | .binOp op xt x y _=>match cO x,cO y with
  | some x,some y=>match kdN P xt with
   |some k=>if kco op then some (.cmp op x y) else some (.bin op k x y)
   | none=>match eqT P xt,op with
    |some ty,.eql=>some (.eqv false ty x y)
    |some ty,.neq=>some (.eqv true ty x y)
    |_,_=>match kf2 P xt,op with
     |some n,.eql=>some (.eqR false n x y)
     |some n,.neq=>some (.eqR true n x y)
     |_,_=>none
  |_,_=>none
 | .unOp op xt x=>match cO x with
  |some x=>match op with
   |.not=>some (.not x)
   |.neg=>(kdN P xt).map fun k=>.neg k x
   |.xor=>(kdN P xt).map fun k=>.cpl k x
   |_=>none
  |none=>none
 | .convert src dst x=>match cO x with
  |some x=>match P.underlying src,P.underlying dst with
   |some (.int _),some (.int k)=>some (.conv k x)
   |some .string,some .string=>some (.mvS x)
   |_,_=>none
  |none=>none
 |.makeInterface t x=>match P.underlying t,cO x with
  |some (.interface _),_=>none
  |some _,some x=>some (.mkif t x)
  |_,_=>none
 |.typeAssert x _ t ok=>match P.underlying t,cO x with
  |some (.interface _),_=>none
  |some _,some x=>if ok then some (.tas t x) else none
  |_,_=>none
 |.makeFunc (.func f) first captured=>if first.isEmpty then(cOs captured.toList).map (.mkfn f) else none
 | .slice t x lo hi mx=>match cO x,cOO lo,cOO hi,cOO mx with
  |some x,some lo,some hi,some mx=>match P.underlying t with
   |some (.slice e)=>(kG P e).map fun n=>.slc n x lo hi mx
   |some (.array m e)=>(kG P e).map fun n=>.slcA m n x lo hi mx
   |_=>none
  |_,_,_,_=>none
 | .fieldAddr s x f=>match cO x,P.underlying s with
  | some x,some (.struct fs)=>match fs[f]? with
   |some g=>match kG P g.type with
    |some (_+1)=>some (.fadr g.offset x)
    |_=>none
   |none=>none
  |_,_=>none
 | .field t x f=>match cO x,P.underlying t with
  | some x,some (.struct fs)=>match fs[f]? with
   |some g=>match kc2 P g.type with
    |some true=>(kG P g.type).map fun n=>.fld g.offset (some n) x
    |some false=>some (.fld g.offset none x)
    |none=>none
   |none=>none
  |_,_=>none
 | .index t x i=>match cO x,cO i,P.underlying t with
  |some x,some i,some .string=>some (.idxS x i)
  |some x,some i,some (.array m e)=>match kG P e,kc2 P e with
   |some n,some ag=>some (.idxA m n ag x i)
   |_,_=>none
  |_,_,_=>none
 | .indexAddr t x i=>match cO x,cO i with
  |some x,some i=>match P.underlying t with
   |some (.slice e)=>(kG P e).map fun n=>.iadr n x i
   |some (.array m e)=>if m≤1 then none else(kG P e).map fun n=>.iadrA m n x i
   |_=>none
  |_,_=>none
 |.extract x i=>(cO x).map fun x=>.extract x i
 | .call { callee:=.builtin .len,args,argTypes }=>match args.toList,argTypes.toList with
  |[x],[t]=>match cO x,P.underlying t with
   |some x,some (.slice _)=>some (.len x)
   |some x,some .string=>some (.lenS x)
   |_,_=>none
  |_,_=>none
 | .call { callee:=.builtin .max,args,.. }=>match args.toList with
  |[x,y]=>match cO x,cO y with
   |some x,some y=>some (.max x y)
   |_,_=>none
  |_=>none
 | .call { callee:=.builtin .min,args,.. }=>match args.toList with
  |[x,y]=>match cO x,cO y with
   |some x,some y=>some (.min x y)
   |_,_=>none
  |_=>none
 |_=>none
def kaq (P:Program) (o:Oper):Option XOp:=
 match o.op with
 | .load t a=>match cO a,kc2 P t with
  |some a,some true=>match kG P t with
   |some (n+1)=>some (.loadA (n+1) a)
   |_=>none
  |some a,some false=>some (.load1 a)
  |_,_=>none
 | .convert src dst x=>match cO x,P.underlying src,P.underlying dst with
  |some x,some (.slice e),some .string=>match P.underlying e with
   |some (.int .u8)=>some (.bstr x)
   |_=>none
  |_,_,_=>none
 |_=>none
def kou (P:Program) (fn:Func):Option Nat:=
 if fn.body.isNone && fn.name == "internal/bytealg.MakeNoZero" && fn.origin == "" then match fn.resultTypes.toList with
  |[t]=>match P.underlying t with
   |some (.slice e)=>some e
   |_=>none
  |_=>none
 else none
def kov (fn : Func) : Bool := fn.body.isNone && fn.name == "internal/bytealg.Count" && fn.origin == ""
def klj (P:Program):XO→Bool
 |.k (.fn g [])=>((P.funcs[g]?).map kov).getD false
 |_=>false
def klk (P:Program):XO→Option Nat
 |.k (.fn g [])=>(P.funcs[g]?).bind (kou P)
 |_=>none
def kjY (P:Program) (o:Oper):Option XOp:=
 match o.op with
 | .alloc t=>match kot P t with
  |some (n,k)=>if kcs (jn P t) k n then some (.newI t k n) else none
  |none=>match knX P t with
   |some (n,sz,z)=>some (.newA t sz n (z.map ofV))
   |none=>(jn P t).map fun z=>.newR t (z.map ofV)
 |.box t x=>match cO x with
  |some x=>some (.box t ((kot P t).map (·.2)) x)
  |none=>none
 | .buildSlice t len parts=>match P.underlying t with
  | some (.slice e)=>match kG P e with
   | some sz=>if len*sz≤16777216 then match kdN P e with
     |some k=>if sz=1∧kcr P e k=true then(jT (fun i=>some (i,1)) parts.toList).map (.bsliceI e k len) else none
     |none=>if sz=0 then none else match jn P e with
      |some z=>if z.length=sz then(jT (fun i=>some (i*sz,sz)) parts.toList).map (.bsliceR e sz len (z.map ofV)) else none
      |none=>none
    else none
   |none=>none
  |_=>none
 |.store t a v=>match cO a,cO v,kc2 P t with
  |some a,some v,some true=>(kG P t).map fun n=>.storeA n a v
  |some a,some v,some false=>if kG P t=some 1 then some (.store1 a v) else none
  |_,_,_=>none
 | .makeSlice t l c=>match cO l,cO c,P.underlying t with
  | some l,some c,some (.slice e)=>match kdN P e,P.info? e with
   |some k,some i=>if i.size=1∧kcr P e k=true∧1≤i.bytes then some (.mkslI e k i.bytes l c) else none
   |none,some i=>match jn P e with
    |some z=>if z.length=i.size∧1≤i.size∧1≤i.bytes then some (.mkslR e i.size i.bytes (z.map ofV) l c) else none
    |none=>none
   |_,_=>none
  |_,_,_=>none
 | .call { callee:=.builtin .append,args,argTypes }=>match args.toList,argTypes.toList with
  | [s,x],[t,u]=>match cO s,cO x,P.underlying t,P.underlying u with
   | some s,some x,some (.slice e),some d=>match kdN P e,P.info? e with
    | some k,some i=>if i.size=1∧kcr P e k=true∧1≤i.bytes then(match d with
      |.int _=>some (.appZ e k i.bytes s x)
      |.slice _=>some (.appI e k i.bytes s x)
      |_=>none) else none
    |none,some i=>match d,jn P e with
     |.slice _,some z=>if z.length=i.size∧1≤i.size∧1≤i.bytes then some (.appR e i.size i.bytes s x) else none
     |_,_=>none
    |_,_=>none
   |_,_,_,_=>none
  |_,_=>none
 | .call { callee:=.builtin .copy,args,argTypes }=>match args.toList,argTypes.toList with
  | [s,x],t::_=>match cO s,cO x,P.underlying t with
   |some s,some x,some (.slice e)=>match kdN P e with
    |some k=>if kG P e=some 1 then some (.copyI k s x) else none
    |none=>none
   |_,_,_=>none
  |_,_=>none
 | .call { callee:=.value f,args,.. }=>match cO f,cOs args.toList with
  |some f,some xs=>match klk P f,xs with
   |some e,[x]=>some (.nozero e x)
   |_,[x,y]=>if klj P f then some (.cntB x y) else some (.call f [x,y])
   |_,_=>some (.call f xs)
  |_,_=>none
 |.call { callee:=.invoke r nm,args,.. }=>match cO r,cOs args.toList with
  |some r,some xs=>some (.icall nm r xs)
  |_,_=>none
 |.panic x=>(cO x).map .pnc
 |_=>none
def cOp (P:Program) (o:Oper):Option XOp:=
 match kao P o with
 |some x=>some x
 |none=>match kaq P o with
  |some x=>some x
  |none=>kjY P o
def kd2 (ops:Array Oper):Option (Nat×Bool)→Option (Option (Nat×Bool))
 |none=>some none
 |some (j,b)=>match (ops[j]?).bind (·.dst) with
  |some d=>some (some (d,b))
  |none=>none
def kiu (P:Program) (f:Nat):Prop:=∃fn,P.funcs[f]?=some fn
def kf3 (P:Program) (o:Oper):Bool:=
 match o.guard,o.op with
 | some _,.call c=>match c.callee with
  |.builtin _=>true
  |.value f=>(match cO f with
   |some (.k (.fn g []))=>(P.funcs[g]?).isSome
   |some (.t _)=>true
   |_=>false)
  |_=>false
 |_,_=>true
def ke8 (P:Program) (ops:Array Oper) (o:Oper):Option j3:=
 match cOp P o,kd2 ops o.guard with
 |some x,some g=>if kf3 P o then some ⟨o.dst,x,g,[]⟩ else none
 |_,_=>none
def kd3 (P:Program) (ops:Array Oper):List Oper→Option (List j3)
 |[]=>some []
 |o::l=>match ke8 P ops o,kd3 P ops l with
  |some s,some ss=>some (s::ss)
  |_,_=>none
def waits (ops:Array Oper) (j p:Nat):Bool:=
 match ops[j]? with
 |some o=>o.after.any fun e=>Region.binds .any e&&e.on==p
 |none=>false
def kd4 (P:Program) (ops:Array Oper) (i:Nat):Bool:=
 match ops[i]? with
 |some o=>(kao P o).isSome
 |none=>false
def kf4 (P:Program) (ops:Array Oper) (i:Nat):Bool:=
 match ops[i]? with
 |some o=>(kao P o).isNone&&(kaq P o).isSome&&(match o.dst with
  |some d=>!(o.looksAt ops).contains d
  |none=>false)
 |none=>false
def kct (ops:Array Oper) (i:Nat) (pend:List Nat):Bool:=
 pend.all fun p=>match ops[i]?,ops[p]? with
  |some x,some y=>(match x.dst with
   |some d=>!(y.looksAt ops).contains d&&y.dst !=some d
   |none=>true)
  |_,_=>false
def kgH (P:Program) (ops:Array Oper):List Nat→Option (List (XOp×Nat×Option (Nat×Bool)))
 |[]=>some []
 | p::l=>match ops[p]? with
  |some o=>match kaq P o,o.dst,kd2 ops o.guard,kgH P ops l with
   |some x,some d,some g,some cs=>some ((x,d,g)::cs)
   |_,_,_,_=>none
  |none=>none
def kjh (f:Nat→Option XT):List Nat→Option XT
 |[]=>none
 |[i]=>f i
 |i::l=>match f i,kjh f l with
  |some a,some b=>some (.both a b)
  |_,_=>none
def kjZ (P:Program) (ops:Array Oper):Nat→Array Bool→List Nat→Option XT
 |0,listed,_=>if (Region.ready .any ops listed).isEmpty then some .fin else none
 | fuel+1,listed,pend=>
  let rs:=Region.ready .any ops listed
  if rs.isEmpty then some .fin else
  match rs.find? fun i=>(kd4 P ops i||kf4 P ops i)&&Region.free .any ops listed i&&kct ops i pend with
  | some i=>match ops[i]? with
   |some o=>match ke8 P ops o,kjZ P ops fuel (listed.setIfInBounds i true) (if kd4 P ops i then pend else i::pend) with
    |some s,some t=>some (.step s t)
    |_,_=>none
   |none=>none
  | none=>if 2<rs.length then none else kjh (fun i=>match ops[i]? with
    | some o=>if kct ops i (pend.filter fun p=>!waits ops i p) then
      match ke8 P ops o,kgH P ops (pend.filter fun p=>!waits ops i p),kjZ P ops fuel (listed.setIfInBounds i true) (pend.filter fun p=>!waits ops i p) with
      |some s,some cs,some t=>some (.step { s with chk:=cs } t)
      |_,_,_=>none
     else none
    |none=>none) rs
def kgI:XT→Option (List j3)
 |.fin=>some []
 |.step s t=>match kgI t with
  |some l=>some (s::l)
  |none=>none
 |.both _ _=>none
def ofT (t:XT):XC:=
 match kgI t with
 |some l=>.ops l
 |none=>.tree t
def kji (x:Option XC):Option XC:=
 match x with
 |some y=>some y
 |none=>some .bad
def kt (P:Program):Code→Option XC
 |.skip=>some .skip
 |.region _ ops false=>kji ((kd3 P ops ops.toList).map .ops)
 |.region _ ops true=>kji (if ops.all (fun o=>(cOp P o).isSome) then(kjZ P ops ops.size (Array.replicate ops.size false) []).map ofT else none)
 |.seq a b=>match kt P a,kt P b with
  |some x,some y=>some (.seq x y)
  |_,_=>none
 | .cond c a b=>match cO c with
  |some c=>match kt P a,kt P b with
   |some x,some y=>some (.cond c x y)
   |_,_=>none
  |none=>some .bad
 |.block id b=>(kt P b).map (.block id)
 |.loop b=>(kt P b).map .loop
 | .rangeFunc f ps a b=>match cO f with
  |some f=>match kt P a,kt P b with
   |some x,some y=>some (.range f ps.toList x y)
   |_,_=>none
  |none=>some .bad
 |.exit id=>some (.exit id)
 |.ret=>some .ret
 |.label _=>some .skip
 |.scope b=>(kt P b).map .scope
 |_=>some .bad
end Go.Sx
namespace Go.Sx
open Go

def own:SB→Bool
 |.free=>false
 |.ro _ _=>false
 |.roA _ _ _=>false
 |_=>true
def lst:LSt→LoopState
 |.ready=>.ready
 |.busy=>.busy
 |.done=>.done
 |.exhausted=>.exhausted
def jump:XE→Option Code
 |.ret=>some .ret
 |.exit id=>some (.exit id)
 |_=>none
def holds (P:Program) (σ:Names) (p:Option (Nat×Nat)) (w:World):SB→Prop
 |.free=>True
 |.one t row=>∃b,p=some (b,0)∧w.heap[b]?=some (.cells (denL σ row).toArray t (0,0))
 |.ints t k l=>∃b,p=some (b,0)∧w.heap[b]?=some (.cells (l.map (Value.int k)).toArray t (0,0))
 | .buf t k l c=>(p=none∧l=[]∧c=0) ∨
   ∃b l',p=some (b,0)∧w.heap[b]?=some (.cells ((l++l').map (Value.int k)).toArray t (0,0))∧c≤(l++l').length
 | .bufR t sz row c=>(p=none∧row=[]∧c=0) ∨
   ∃b rest,p=some (b,0)∧w.heap[b]?=some (.cells (denL σ row++rest).toArray t (0,0))∧c*sz≤(denL σ row++rest).length
 | .arr t sz len f=>∃b cs,p=some (b,0)∧w.heap[b]?=some (.cells cs t (0,0))∧cs.size=len*sz ∧
   ∀i,i<len→(f i).length=sz∧∀j v,(f i)[j]?=some v→cs[i*sz+j]?=some (den σ v)
 | .bufA t sz len f c=>(p=none∧len=0∧c=0)∨∃b cs,p=some (b,0)∧w.heap[b]?=some (.cells cs t (0,0))∧len*sz≤cs.size∧c*sz≤cs.size ∧
   ∀i,i<len→(f i).length=sz∧∀j v,(f i)[j]?=some v→cs[i*sz+j]?=some (den σ v)
 |.ro k l=>(p=none∧l=[])∨∃b o,p=some (b,o)∧∀i,i<l.length→w.cell? ⟨b,o+i,none⟩=some (.int k (l.getD i 0))
 | .roA sz len f=>(p=none∧len=0)∨∃b o,p=some (b,o) ∧
   ∀i,i<len→(f i).length=sz∧∀j v,(f i)[j]?=some v→w.cell? ⟨b,o+(i*sz+j),none⟩=some (den σ v)
 | .loop s pend t ps asg body=>∃b fn ca cb d,p=some (b,0)∧kt P ca=some asg∧kt P cb=some body∧kiu P fn ∧
   w.heap[b]?=some (.loop { state:=lst s,pending:=pend.bind jump,fn,tmps:=(denL σ t).toArray,params:=ps.toArray,assign:=ca,body:=cb,defers:=d })
 |.defd=>∃b,p=some (b,0)∧w.heap[b]?=some (.deferred (some []))

def jh:SB→Bool
 |.loop _ _ _ _ _ _=>true
 |_=>false
structure Ok0 (P:Program) (σ:Names) (s:SS) (w:World):Prop where
 lt:∀i p,i<s.h.length→σ i=some p→p.1<w.heap.size
 ne:∀i j B C p q,i≠j→s.h[i]?=some B→s.h[j]?=some C→(own B=true∨own C=true)→σ i=some p→σ j=some q→p.1≠q.1
 blk:∀i B,s.h[i]?=some B→holds P σ (σ i) w B
 marks:∀l,l∈s.d→l∉s.r∧s.h[l]?=some .defd
 rnd:∀l,s.rd=some l→l∉s.r∧∃B,s.h[l]?=some B∧jh B=true
def coldB (w:World) (b:Nat):CB→Prop
 |.ints k l=>∃t l',w.heap[b]?=some (.cells ((l++l').map (Value.int k)).toArray t (0,0))
 |.rows sz len f=>∃t cs,w.heap[b]?=some (.cells cs t (0,0))∧∀i,i<len→(f i).length=sz∧∀j v,(f i)[j]?=some v→cs[i*sz+j]?=some v
theorem coldB.old {w w':World} {b:Nat}:∀{B:CB},coldB w b B→w'.heap[b]?=w.heap[b]?→coldB w' b B
 |.ints _ _,⟨t,l',h⟩,he=>⟨t,l',by rw[he,h]⟩
 |.rows _ _ _,⟨t,cs,h,k⟩,he=>⟨t,cs,by rw[he,h],k⟩
theorem coldB.lt {w:World} {b:Nat}:∀{B:CB},coldB w b B→b<w.heap.size
 |.ints _ _,⟨_,_,h⟩=>(Array.getElem?_eq_some_iff.1 h).1
 |.rows _ _ _,⟨_,_,h,_⟩=>(Array.getElem?_eq_some_iff.1 h).1
structure Cold (σ:Names) (s:SS) (w:World):Prop where
 there:∀b B,s.c b=some B→coldB w b B
 apart:∀i B p,s.h[i]?=some B→own B=true→σ i=some p→s.c p.1=none
structure Ok (P:Program) (σ:Names) (s:SS) (w:World):Prop extends Ok0 P σ s w where
 cold:Cold σ s w

structure Step (σ:Names) (s:SS) (w:World) (σ':Names) (s':SS) (w':World):Prop where
 size:w.heap.size≤w'.heap.size
 os:w'.os=w.os
 tape:w'.tape=w.tape
 output:w'.output=w.output
 far:∀b,b<w.heap.size→(∀i B p,s.h[i]?=some B→own B=true→σ i=some p→p.1≠b)→w'.heap[b]?=w.heap[b]?
 len:s.h.length≤s'.h.length
 names:∀i,i<s.h.length→i∉s'.r→σ' i=σ i
 red:∀i,i∈s.r→i∈s'.r
 own:∀i B p,s'.h[i]?=some B→own B=true→σ' i=some p→p.1<w.heap.size→∃j C q,s.h[j]?=some C∧Sx.own C=true∧σ j=some q∧q.1=p.1
 rd:s'.rd=s.rd

theorem Cold.step {σ σ':Names} {s s':SS} {w w':World} (h:Cold σ s w) (hst:Step σ s w σ' s' w') (hc:s'.c=s.c):Cold σ' s' w':=by
 refine⟨fun b B hb=>?_,fun i B p hi hB hp=>?_⟩
 ·rw[hc] at hb;have hh:=h.there b B hb;refine hh.old (hst.far b hh.lt (fun i C p hi hC hp e=>?_))
  have:=h.apart i C p hi hC hp;rw[e,hb] at this;cases this
 ·rw[hc];by_cases hs:p.1<w.heap.size
  ·obtain⟨j,C,q,hj,hC,hq,he⟩:=hst.own i B p hi hB hp hs;rw[←he];exact h.apart j C q hj hC hq
  ·cases hb:s.c p.1 with
   |none=>rfl
   |some B'=>exact absurd (h.there _ _ hb).lt hs
theorem Cold.nil {σ:Names} {s:SS} {w:World} (hc:s.c=fun _=>none):Cold σ s w:=
 ⟨fun b B hb=>(by rw[hc] at hb;cases hb),fun i B p _ _ _=>(by rw[hc])⟩
def mark (σ:Names) (l:Nat):Deferred:={ target:=.collected (((σ l).map (·.1)).getD 0),args:=#[] }
def act (σ:Names) (s:SS):Act:={ tmps:=(denL σ s.t).toArray,defers:=s.d.map (mark σ)++s.x }
def FR (P:Program) (r:Option Nat):Fence:={ Fence.wide with fn:=kiu P,round:=r }
def rOf (σ:Names) (s:SS):Option Nat:=s.rd.bind fun l=>(σ l).map (·.1)

def qg (σ:Names) (s:SS) (a:Act):XE→Exit→Prop
 |.normal,.normal=>a=act σ s
 |.exit i,.exit j=>i=j∧a=act σ s
 |.ret,.ret=>a=act σ s
 |.panic v,.panic ch=>ch=[{ v:=den σ v,recovered:=false }]∧a.defers=(act σ s).defers
 |_,_=>False
def kP (P:Program) (σ:Names) (s:SS) (w:World) (K:XE→SS→Prop):Exit→Act→World→Prop:=fun e a w'=>
 ∃e' σ' s',K e' s'∧Ok P σ' s' w'∧Step σ s w σ' s' w'∧qg σ' s' a e' e
def kow (σ:Names) (s:SS) (K:SV→SS→Prop) (X:XE→SS→Prop):Ending→Prop
 |.returned v=>∃v',K v' s∧v=den σ v'
 |.panicked ch=>∃v',X (.panic v') s∧ch=[{ v:=den σ v',recovered:=false }]
 |.outgrown=>False
def kjj (P:Program) (σ:Names) (s:SS) (w:World) (K:SV→SS→Prop) (X:XE→SS→Prop):Ending→World→Prop:=fun e w'=>
 ∃σ' s',Ok P σ' s' w'∧Step σ s w σ' s' w'∧act σ' s'=act σ s∧kow σ' s' K X e

structure WX (P:Program) (x:XC) (s:SS) (K:XE→SS→Prop):Prop where
 out:∀c,kt P c=some x→∀σ w,Ok P σ s w→c.wpIn (FR P (rOf σ s)) 0 P (kP P σ s w K) (act σ s) w
structure CallX (P:Program) (f:Nat) (args:List SV) (s:SS) (K:SV→SS→Prop) (X:XE→SS→Prop):Prop where
 go:∀(xs:Array Value) (w:World),(callFunc f xs).run P w=.ok (.enter f xs) w
 out:∀σ w,Ok P σ s w→CallsIn (FR P (rOf σ s)) 0 P f (denL σ args).toArray w (kjj P σ s w K X)
structure MethIs (P:Program) (nm:String) (t g:Nat):Prop where
 inv:∀(v:Value) (xs:Array Value) (w:World),(invoke (.fn (.method nm) #[]) (#[.iface t v]++xs)).run P w=.ok (.enter g (#[v]++xs)) w
 leads:∀(v:Value) (xs:Array Value) (w:World) (f:Nat),Target.leads P w (.fn (.method nm) #[]) (#[.iface t v]++xs)=some f→f=g
structure kox (P:Program) (nm:String) (t:Nat) (args:List SV) (s:SS) (K:SV→SS→Prop) (X:XE→SS→Prop):Prop where
 out:∃g,MethIs P nm t g∧CallX P g args s K X
structure YieldX (P:Program) (l:Nat) (args:List SV) (s:SS) (K:SV→SS→Prop) (X:XE→SS→Prop):Prop where
 out:∀σ w,Ok P σ s w→∃fn tmps asg body,(invoke (.fn (.yield (((σ l).map (·.1)).getD 0)) #[]) (denL σ args).toArray).run P w=.ok (.round (((σ l).map (·.1)).getD 0) fn tmps asg body) w ∧
  RoundIn (FR P (rOf σ s)) 0 P (((σ l).map (·.1)).getD 0) fn tmps asg body w (kjj P σ s w K X)

def ka1 (v:SV) (A B:Unit→Prop):Prop:=
 match v with
 |.bool b=>match b with
  |true=>A ()
  |false=>B ()
 |_=>False
def kbR (op:BinOp):Bool:=
 match op with
 |.shl=>true
 |.shr=>true
 |_=>false
def kcu (op:BinOp):Bool:=
 match op with
 |.quo=>true
 |.rem=>true
 |_=>false
def kd5 (O:Ops) (op:BinOp) (k:IntKind) (x y:SV) (K:SV→Prop):Prop:=
 match x,y with
 |.lit k1 a,.lit k2 b=>if kEq k k1&&(kbR op||kEq k k2) then(if kbR op&&decide (b<0) then False else if kcu op&&b==0 then False else K (.lit k (bV op k a b))) else False
 |.int k1 a,.lit k2 b=>if kEq k k1&&(kbR op||kEq k k2) then(if kbR op&&decide (b<0) then False else if kcu op&&b==0 then False else K (.int k (O.b op k a b))) else False
 |.lit k1 a,.int k2 b=>if kEq k k1&&(kbR op||kEq k k2) then(if kbR op then qz b∧K (.int k (O.b op k a b)) else if kcu op then koq b∧K (.int k (O.b op k a b)) else K (.int k (O.b op k a b))) else False
 |.int k1 a,.int k2 b=>if kEq k k1&&(kbR op||kEq k k2) then(if kbR op then qz b∧K (.int k (O.b op k a b)) else if kcu op then koq b∧K (.int k (O.b op k a b)) else K (.int k (O.b op k a b))) else False
 |_,_=>False
def kdO (O:Ops) (op:BinOp) (x y:SV) (K:SV→Prop):Prop:=
 match x,y with
 |.lit k1 a,.lit k2 b=>if kEq k1 k2 then K (.bool (cV op a b)) else False
 |.int k1 a,.lit k2 b=>if kEq k1 k2 then K (.bool (O.c op a b)) else False
 |.lit k1 a,.int k2 b=>if kEq k1 k2 then K (.bool (O.c op a b)) else False
 |.int k1 a,.int k2 b=>if kEq k1 k2 then K (.bool (O.c op a b)) else False
 |_,_=>False
def kdq (v:SV) (K:List SV→Prop):Prop:=
 match v with
 |.agg cs=>K cs
 |.val u=>match u with
  |.agg a=>K (a.toList.map ofV)
  |_=>False
 |_=>False
def qe (O:Ops):Nat→List SV→List SV→(Bool→Prop)→Prop
 |0,[],[],K=>K true
 |n+1,x::xs,y::ys,K=>kdO O .eql x y (fun v=>ka1 v (fun _=>qe O n xs ys K) (fun _=>K false))
 |_,_,_,_=>False
def mmV (O:Ops) (mx:Bool) (x y:SV) (K:SV→Prop):Prop:=
 match x,y with
 |.lit k1 a,.lit k2 b=>if kEq k1 k2 then K (.lit k1 (if mx then(if b>a then b else a) else(if b<a then b else a))) else False
 |.int k1 a,.lit k2 b=>if kEq k1 k2 then K (.int k1 (if mx then O.maxI a b else O.minI a b)) else False
 |.lit k1 a,.int k2 b=>if kEq k1 k2 then K (.int k1 (if mx then O.maxI a b else O.minI a b)) else False
 |.int k1 a,.int k2 b=>if kEq k1 k2 then K (.int k1 (if mx then O.maxI a b else O.minI a b)) else False
 |_,_=>False
def ke9 (sz:Nat):Nat→List SV→List SV
 |0,l=>l
 |n+1,l=>ke9 sz n (l.drop sz)
def takeA:Nat→List SV→List SV
 |0,_=>[]
 |_+1,[]=>[]
 |n+1,v::l=>v::takeA n l
def headA:List SV→SV
 |[]=>.undef
 |v::_=>v
def kf5 (O:Ops) (i:SV) (n:Nat) (K:Nat→Prop):Prop:=
 match i with
 |.lit _ m=>InR m n∧K m.toNat
 |.int _ m=>InR m n∧K (O.toN m)
 |_=>False
def kA (O:Ops) (o:XOp) (s:SS) (K:SV→Prop):Prop:=
 match o with
 |.mv x=>K (ev s x)
 |.mvS x=>match ev s x with
  |.str l=>K (.str l)
  |_=>False
 |.pick c a b=>ka1 (ev s c) (fun _=>K (ev s a)) (fun _=>K (ev s b))
 |.build zero ps=>kcq s ps zero (fun row=>K (.agg row))
 |.nilchk x=>match ev s x with
  |.ptr b i sz j=>there s b (K (.ptr b i sz j))
  |.fn f cs=>K (.fn f cs)
  |.yield l=>K (.yield l)
  |_=>False
 |.bin op k x y=>kd5 O op k (ev s x) (ev s y) K
 |.cmp op x y=>kdO O op (ev s x) (ev s y) K
 |.eqR neg n x y=>kdq (ev s x) (fun xs=>kdq (ev s y) (fun ys=>qe O n xs ys (fun b=>K (.bool (if neg then !b else b)))))
 |.eqv neg ty x y=>kjX O s neg ty (ev s x) (ev s y) (fun b=>K (.bool b))
 |.not x=>match ev s x with
  |.bool b=>K (.bool (O.notB b))
  |_=>False
 |.neg k x=>kd5 O .sub k (.lit k 0) (ev s x) K
 |.cpl k x=>intOf k (ev s x) (fun n=>K (.int k (O.b .xor k (if k.signed then -1 else k.max) n)))
 |.conv k x=>match ev s x with
  |.lit _ n=>K (.lit k (k.wrap n))
  |.int _ n=>K (.int k (O.w k n))
  |_=>False
 |.fadr off x=>match ev s x with
  |.ptr b i sz j=>there s b (K (.ptr b i sz (j+off)))
  |_=>False
 | .fld off ag x=>match ev s x with
  |.agg cs=>(match ag with
   |none=>rowAt cs off K
   |some n=>if off+n≤cs.length then K (.agg ((cs.drop off).take n)) else False)
  |_=>False
 |.idxS x i=>match ev s x with
  |.str l=>kf5 O (ev s i) (O.ln l) (fun n=>K (.int .u8 (O.byteV (O.gd l n))))
  |_=>False
 |.idxA m sz ag x i=>kdq (ev s x) (fun cs=>if cs.length==m*sz then kf5 O (ev s i) m (fun n=>if ag then K (.agg (takeA sz (ke9 sz n cs))) else(if sz==1 then K (headA (ke9 sz n cs)) else False)) else False)
 | .iadr sz x i=>match ev s x with
  |.slice b ix sz' len _=>if sz==sz' then kf5 O (ev s i) len (fun n=>(match s.h[b]? with
   |some (.ro _ l)=>Lt (O.addN (ixN ix) n) (O.ln l)∧K (.ptr b (ka8 O ix n) sz 0)
   |some (.roA _ m _)=>Lt (O.addN (ixN ix) n) m∧K (.ptr b (ka8 O ix n) sz 0)
   |some (.bufA _ _ m _ _)=>Lt (O.addN (ixN ix) n) m∧K (.ptr b (ka8 O ix n) sz 0)
   |some (.buf _ _ l _)=>Lt (O.addN (ixN ix) n) (O.ln l)∧K (.ptr b (ka8 O ix n) sz 0)
   |some (.ints _ _ _)=>K (.ptr b (ka8 O ix n) sz 0)
   |some (.one _ _)=>K (.ptr b (ka8 O ix n) sz 0)
   |some (.arr _ _ _ _)=>K (.ptr b (ka8 O ix n) sz 0)
   |some (.bufR _ _ (_::_) _)=>K (.ptr b (ka8 O ix n) sz 0)
   |_=>False)) else False
  |_=>False
 | .iadrA m sz x i=>match ev s x with
  |.ptr b ix sz' j=>(match ix with
   |.z=>kf5 O (ev s i) m (fun n=>there s b (K (.ptr b (.n n) sz j)))
   |_=>False)
  |_=>False
 |.slc sz x lo hi mx=>match ev s x with
  | .slice b ix sz' len cap=>if sz==sz'&&(mx.isNone||hi.isSome) then bnd O (mx.map (ev s)) cap cap (fun m=>bnd O (hi.map (ev s)) len m (fun h=>bnd O (lo.map (ev s)) 0 h (fun l=>
    K (.slice b (match lo with|none=>ix|some _=>.n (O.cutN (ixN ix) l m)) sz (match lo with|none=>h|some _=>O.subN h l) (match lo with|none=>m|some _=>O.subN m l))))) else False
  | .val (.slice (some a) len cap)=>if mx.isNone&&lo.isNone then bnd O (mx.map (ev s)) cap cap (fun m=>bnd O (hi.map (ev s)) len m (fun h=>bnd O (lo.map (ev s)) 0 h (fun _=>
    K (.val (.slice (some a) h m))))) else False
  |_=>False
 | .slcA n sz x lo hi mx=>match ev s x with
  | .ptr b ix _ j=>(match ix,j with
   |.z,0=>there s b (if mx.isSome&&hi.isNone then False else bnd O (mx.map (ev s)) n n (fun m=>bnd O (hi.map (ev s)) n m (fun h=>bnd O (lo.map (ev s)) 0 h (fun l=>
    K (.slice b (match lo with|none=>.z|some _=>.n (O.cutN 0 l m)) sz (match lo with|none=>h|some _=>O.subN h l) (match lo with|none=>m|some _=>O.subN m l))))))
   |_,_=>False)
  |_=>False
 |.len x=>match ev s x with
  |.slice _ _ _ len _=>K (.int .i64 (O.ofN len))
  |.val (.slice none 0 0)=>K (.lit .i64 0)
  |.val (.slice (some _) len _)=>K (.int .i64 (O.ofN len))
  |_=>False
 |.lenS x=>match ev s x with
  |.str l=>K (.int .i64 (O.ofN (O.ln l)))
  |_=>False
 |.max x y=>mmV O true (ev s x) (ev s y) K
 |.min x y=>mmV O false (ev s x) (ev s y) K
 |.mkfn f cs=>K (.fn f (cs.map (ev s)))
 |.extract x i=>match ev s x with
  |.tup vs=>rowAt vs i K
  |_=>False
 |.mkif t x=>K (.iface t (ev s x))
 |.tas t x=>match ev s x with
  |.iface t' v=>if t'==t then K (.tup [v,.bool true]) else False
  |_=>False
 |_=>False
def kaH (O:Ops) (o:XOp) (s:SS) (K:SV→Prop):Prop:=
 match o with
 |.load1 x=>ld1 O s (ev s x) K
 |.loadA n x=>match ev s x with
  |.ptr b i sz j=>ldN O s b i sz n j (fun vs=>K (.agg vs))
  |_=>False
 |.bstr x=>kf1 O s .u8 (ev s x) (fun l _=>K (.str l))
 |_=>False
def kdr (s:SS) (k:IntKind):List Part→List Int→(List Int→Prop)→Prop
 |[],l,K=>K l
 |p::ps,l,K=>intOf k (ev s p.x) (fun n=>if p.off<l.length then kdr s k ps (l.set p.off n) K else False)
def kiv (l c:SV) (K:Int→Int→Prop):Prop:=
 match l,c with
 |.lit .i64 a,.lit .i64 b=>K a b
 |.int .i64 a,.int .i64 b=>K a b
 |.lit .i64 a,.int .i64 b=>K a b
 |.int .i64 a,.lit .i64 b=>K a b
 |_,_=>False
def kgJ (O:Ops) (s:SS) (k:IntKind) (dst:SV) (xs:List Int) (m:Nat) (K:SV→SS→Prop):Prop:=
 match dst with
 |.slice b i 1 len _=>match s.h[b]? with
  | some (.ints t k' l)=>if kEq k k' then Le (O.addN (ixN i) len) (O.ln l) ∧
    K (.int .i64 (O.minI (O.ofN m) (O.ofN len))) { s with h:=s.h.set b (.ints t k' (O.splice l (ixN i) (O.sub xs 0 (O.toN (O.minI (O.ofN m) (O.ofN len)))))) } else False
  |_=>False
 |_=>False
def kll (O:Ops) (s:SS) (e:Nat) (n:Int) (K:SV→SS→Prop):Prop:=
 qz n∧kc0 n 1∧scS s (∀l:List Int,Le (O.toN n) (O.ln l)→K (.slice s.h.length .z 1 (O.toN n) (O.ln l)) (alloc (.ints e .u8 l) s))
def kL (O:Ops) (P:Program) (o:XOp) (s:SS) (K:SV→SS→Prop) (X:XE→SS→Prop):Prop:=
 match o with
 |.box t ik x=>kal (ev s x) (fun cs=>match ik with
  |none=>scS s (K (.ptr s.h.length .z cs.length 0) (alloc (.one t cs) s))
  |some k=>q8 k cs (fun ns=>scS s (K (.ptr s.h.length .z 1 0) (alloc (.ints t k ns) s))))
 |.newI t k n=>scS s (K (.ptr s.h.length .z 1 0) (alloc (.ints t k (O.rep n 0)) s))
 |.newR t row=>scS s (K (.ptr s.h.length .z row.length 0) (alloc (.one t row) s))
 |.newA t sz n z=>scS s (K (.ptr s.h.length .z sz 0) (alloc (.arr t sz n (fun _=>z)) s))
 |.bsliceI e k n ps=>kdr s k ps (List.replicate n 0) (fun l=>scS s (K (.slice s.h.length .z 1 n n) (alloc (.ints e k l) s)))
 |.store1 x v=>kal (ev s v) (fun cs=>match cs with
  |[v]=>st1 O s (ev s x) v (fun s'=>K .undef s')
  |_=>False)
 |.storeA n x v=>match ev s x,ev s v with
  |.ptr b i sz j,.agg cs=>if cs.length==n then there s b (stN O b i sz cs j s (fun s'=>K .undef s')) else False
  |_,_=>False
 |.mkslI e k bytes l c=>kiv (ev s l) (ev s c) (fun l c=>qz l∧qz c∧InC l (O.toN c)∧kc0 c bytes∧scS s (K (.slice s.h.length .z 1 (O.toN l) (O.toN c)) (alloc (.ints e k (O.rep (O.toN c) 0)) s)))
 |.mkslR e sz bytes z l c=>kiv (ev s l) (ev s c) (fun l c=>qz l∧qz c∧InC l (O.toN c)∧kc0 c bytes∧scS s (K (.slice s.h.length .z sz (O.toN l) (O.toN c)) (alloc (.arr e sz (O.toN c) (fun _=>z)) s)))
 |.appI e k bytes sl x=>kf1 O s k (ev s x) (fun xs m=>kiq O s e k bytes (ev s sl) xs m K)
 |.appZ e k bytes sl x=>kjV (ev s x) (fun n=>qz n∧kc0 n bytes∧kiq O s e k bytes (ev s sl) (O.rep (O.toN n) 0) (O.toN n) K)
 |.copyI k sl x=>kf1 O s k (ev s x) (fun xs m=>kgJ O s k (ev s sl) xs m K)
 |.nozero e x=>intOf .i64 (ev s x) (fun n=>kll O s e n K)
 |.cntB x c=>kf1 O s .u8 (ev s x) (fun xs _=>intOf .u8 (ev s c) (fun n=>∀r,kos xs n r→K (.int .i64 r) s))
 |.bsliceR e sz n z ps=>kcq s ps (kf0 z n) (fun row=>if scL s.h.length row then scS s (K (.slice s.h.length .z sz n n) (alloc (.bufR e sz row n) s)) else False)
 |.appR e sz bytes sl x=>match knW s (ev s sl) (ev s x) with
  |true=>knH O s e sz bytes (ev s sl) (ev s x) K
  |false=>kir s sz (ev s x) (fun xs m=>appR s e sz bytes (ev s sl) xs m K)
 |.call f args=>match ev s f with
  |.fn g cs=>CallX P g (args.map (ev s)++cs) s K X
  |.yield l=>YieldX P l (args.map (ev s)) s K X
  |_=>False
 |.icall nm x args=>match ev s x with
  |.iface t v=>kox P nm t (v::args.map (ev s)) s K X
  |_=>False
 |.pnc x=>match ev s x with
  |.iface t v=>X (.panic (.iface t v)) s
  |_=>False
 |_=>False
inductive Cls where
 |pure|load|act
def cls (o:XOp):Cls:=
 match o with
 |.load1 _=>.load
 |.loadA _ _=>.load
 |.bstr _=>.load
 |.box _ _ _=>.act
 |.newI _ _ _=>.act
 |.newR _ _=>.act
 |.newA _ _ _ _=>.act
 |.bsliceI _ _ _ _=>.act
 |.bsliceR _ _ _ _ _=>.act
 |.store1 _ _=>.act
 |.storeA _ _ _=>.act
 |.mkslI _ _ _ _ _=>.act
 |.mkslR _ _ _ _ _ _=>.act
 |.appI _ _ _ _ _=>.act
 |.appZ _ _ _ _ _=>.act
 |.appR _ _ _ _ _=>.act
 |.copyI _ _ _=>.act
 |.nozero _ _=>.act
 |.cntB _ _=>.act
 |.call _ _=>.act
 |.icall _ _ _=>.act
 |.pnc _=>.act
 |_=>.pure
def kd6 (O:Ops) (P:Program) (o:XOp) (s:SS) (K:SV→SS→Prop) (X:XE→SS→Prop):Prop:=
 match cls o with
 |.pure=>kA O o s (fun v=>K v s)
 |.load=>kaH O o s (fun v=>K v s)
 |.act=>kL O P o s K X
def ka9 (s:SS) (g:Option (Nat×Bool)) (A B:Unit→Prop):Prop:=
 match g with
 |none=>A ()
 | some (g,b)=>match s.t.getD g .undef with
  | .bool c=>(match b with
   |true=>(match c with
    |true=>A ()
    |false=>B ())
   |false=>(match c with
    |true=>B ()
    |false=>A ()))
  |.undef=>B ()
  |_=>False
def kbS (o:XOp) (s:SS) (K:Prop):Prop:=
 match o with
 |.call (.t n) _=>(match s.t.getD n .undef with
  |.undef=>K
  |_=>False)
 |_=>K
def kdP (O:Ops) (s:SS):List (XOp×Nat×Option (Nat×Bool))→Prop→Prop
 |[],Q=>Q
 |(o,d,g)::l,Q=>if ltB d s.t.length then ka9 s g (fun _=>kaH O o s (fun v=>v=s.t.getD d .undef)) (fun _=>True)∧kdP O s l Q else False
def qp (O:Ops) (P:Program):List j3→SS→(XE→SS→Prop)→Prop
 |[],s,K=>K .normal s
 | st::rest,s,K=>ka9 s st.guard
   (fun _=>kd6 O P st.op s (fun v s'=>kdP O (put st.dst v s') st.chk (qp O P rest (put st.dst v s') K)) K)
   (fun _=>kbS st.op s (qp O P rest (put st.dst .undef s) K))
def exT (O:Ops) (P:Program):XT→SS→(XE→SS→Prop)→Prop
 |.fin,s,K=>K .normal s
 | .step st t,s,K=>ka9 s st.guard
   (fun _=>kd6 O P st.op s (fun v s'=>kdP O (put st.dst v s') st.chk (exT O P t (put st.dst v s') K)) K)
   (fun _=>kbS st.op s (exT O P t (put st.dst .undef s) K))
 |.both a b,s,K=>exT O P a s K∧exT O P b s K
def koy (r:SS→(XE→SS→Prop)→Prop) (K:XE→SS→Prop) (e:XE) (s':SS):Prop:=
 match e with
 |.normal=>r s' K
 |.exit id=>K (.exit id) s'
 |.ret=>K .ret s'
 |.panic v=>K (.panic v) s'
def kiw (id:Nat) (K:XE→SS→Prop) (e:XE) (s':SS):Prop:=
 match e with
 |.normal=>K .normal s'
 |.exit id'=>if id'==id then K .normal s' else K (.exit id') s'
 |.ret=>K .ret s'
 |.panic v=>K (.panic v) s'
def kix (N:SS→Prop) (K:XE→SS→Prop) (e:XE) (s':SS):Prop:=
 match e with
 |.normal=>N s'
 |.exit id=>K (.exit id) s'
 |.ret=>K .ret s'
 |.panic v=>K (.panic v) s'
def ex (O:Ops) (P:Program):XC→SS→(XE→SS→Prop)→Prop
 |.skip,s,K=>K .normal s
 |.ops l,s,K=>qp O P l s K
 |.tree t,s,K=>exT O P t s K
 |.seq a b,s,K=>ex O P a s (koy (ex O P b) K)
 |.cond c a b,s,K=>ka1 (ev s c) (fun _=>ex O P a s K) (fun _=>ex O P b s K)
 |.block id b,s,K=>ex O P b s (kiw id K)
 |.loop b,s,K=>WX P (.loop b) s K
 |.scope b,s,K=>ex O P b s K
 |.range f ps asg body,s,K=>WX P (.range f ps asg body) s K
 |.exit id,s,K=>K (.exit id) s
 |.ret,s,K=>K .ret s
 |.bad,_,_=>False
end Go.Sx
namespace Go.Sx
open Go

theorem kq (σ:Names) (l:List SV):denL σ l=l.map (den σ):=by
 induction l with
 |nil=>rfl
 |cons v l ih=>simp[denL,ih]
theorem jq (σ:Names) (l:List SV) (i:Nat):(denL σ l)[i]?=(l[i]?).map (den σ):=by rw[kq];simp
theorem jC (σ:Names) (l:List SV):(denL σ l).length=l.length:=by rw[kq];simp

theorem kbz (σ:Names) (v:Value):den σ (ofV v)=v:=by
 cases v<;>simp only[ofV,den]
 case string s=>
  congr 1
  unfold qd;have h:(List.map (fun n:Int=>UInt8.ofNat n.toNat) (List.map (fun b:UInt8=>(b.toNat:Int)) s.data.toList))=s.data.toList:=by
   rw[List.map_map];conv=>rhs;rw[←List.map_id s.data.toList]
   apply List.map_congr_left
   intro b _;simp
  rw[h]
theorem ke {σ:Names} {s:SS} {x:Operand} {y:XO} (h:cO x=some y):(act σ s).eval x=den σ (ev s y):=by
 cases x<;>simp only[cO,Option.some.injEq,reduceCtorEq] at h<;>subst h
 case tmp t=>
  simp only[Act.eval,ev,act];rw[List.getD_eq_getElem?_getD,Array.getD_eq_getD_getElem?,List.getElem?_toArray,jq];cases s.t[t]?<;>simp[den]
 case const v=>simp[Act.eval,ev,kbz]
 case func f=>simp[Act.eval,ev,den,denL]
theorem kbA {σ:Names} {s:SS}:∀{xs:List Operand} {ys:List XO},cOs xs=some ys→xs.map (act σ s).eval=denL σ (ys.map (ev s))
 |[],ys,h=>by simp only[cOs,Option.some.injEq] at h;subst h;rfl
 | x::xs,ys,h=>by
  simp only[cOs] at h;split at h
  ·rename_i y ys' hx hxs;simp only[Option.some.injEq] at h;subst h;simp only[List.map_cons,denL,ke hx,kbA hxs]
  ·cases h
theorem j5 (σ:Names) (s:SS) (d:Option Nat) (v:SV):(act σ s).put d (den σ v)=act σ (put d v s):=by
 cases d with
 |none=>rfl
 |some d=>simp[act,put,Act.put,kq,List.map_set]

theorem jg {a b:IntKind}:kEq a b=true↔a=b:=by cases a<;>cases b<;>simp[kEq]

theorem ke1 (P:Program) (w:World) (op:BinOp) (k k2:IntKind) (t:TypeId) (x y:Int)
  (hk:kbR op=true∨k=k2) (hs:kbR op=true→0≤y) (hd:kcu op=true→y≠0)
  (hop:kco op=false) :
  (binOp op t (.int k x) (.int k2 y)).run P w=.ok (.int k (bV op k x y)) w:=by
 cases op<;>simp only[kbR,kcu,kco,Bool.false_eq_true,Bool.true_eq_false,false_or,true_or,forall_const,reduceCtorEq] at hk hs hd hop <;>
  (try subst hk)<;>simp[binOp,Op.intArith,Op.intDiv,Op.intBits,Op.shift,bV]
 ·intro h;exact absurd h hd
 ·intro h;exact absurd h hd
 ·intro h;omega
 ·intro h;omega
theorem kgK (P:Program) (w:World) (op:BinOp) (k:IntKind) (t:TypeId) (x y:Int)
  (hop:kco op=true) :
  (binOp op t (.int k x) (.int k y)).run P w=.ok (.bool (cV op x y)) w:=by
 cases op<;>simp only[kco,Bool.false_eq_true,reduceCtorEq] at hop<;>simp[binOp,Op.intCmp,cV]


theorem jz {σ:Names} {v:SV} {k:IntKind} {K:Int→Prop} (h:intOf k v K):∃n,den σ v=.int k n∧K n:=by
 cases v<;>simp only[intOf] at h
 all_goals
  split at h
  ·rename_i he;rw[jg] at he;subst he;exact⟨_,rfl,h⟩
  ·exact h.elim
theorem kd7 {op:BinOp} {k:IntKind} {x y:SV} {K:SV→Prop} (h:kd5 std op k x y K) (σ:Names) (P:Program) (t:TypeId)
  (hop:kco op=false) :
  ∃v,K v∧∀w,(binOp op t (den σ x) (den σ y)).run P w=.ok (den σ v) w:=by
 have key:∀(k1 k2:IntKind) (a b:Int),(kEq k k1&&(kbR op||kEq k k2))=true→(kbR op=true→0≤b)→(kcu op=true→b≠0) →
   ∀w,(binOp op t (.int k1 a) (.int k2 b)).run P w=.ok (.int k (bV op k a b)) w:=by
  intro k1 k2 a b hk hs hd w;simp only[Bool.and_eq_true,Bool.or_eq_true,jg] at hk;obtain⟨rfl,hk⟩:=hk;exact ke1 P w op k k2 t a b hk hs hd hop
 cases x<;>cases y<;>simp only[kd5] at h<;>(split at h;rotate_left;exact h.elim)
 all_goals rename_i hk
 ·rename_i k1 a k2 b;split at h
  ·exact h.elim
  ·rename_i h1;split at h
   ·exact h.elim
   ·rename_i h2;exact⟨_,h,fun w=>key k1 k2 a b hk (fun hs=>by simp[hs] at h1;exact h1) (fun hd=>by simpa [hd] using h2) w⟩
 ·rename_i k1 a k2 b;split at h
  ·rename_i hs;exact⟨_,h.2,fun w=>key k1 k2 a b hk (fun _=>h.1.out) (fun hd=>by cases op<;>simp[kbR,kcu] at hs hd) w⟩
  ·rename_i hs;split at h
   ·exact⟨_,h.2,fun w=>key k1 k2 a b hk (fun h'=>absurd h' hs) (fun _=>h.1.out) w⟩
   ·rename_i hd;exact⟨_,h,fun w=>key k1 k2 a b hk (fun h'=>absurd h' hs) (fun h'=>absurd h' hd) w⟩
 ·rename_i k1 a k2 b;split at h
  ·exact h.elim
  ·rename_i h1;split at h
   ·exact h.elim
   ·rename_i h2;exact⟨_,h,fun w=>key k1 k2 a b hk (fun hs=>by simp[hs] at h1;exact h1) (fun hd=>by simpa [hd] using h2) w⟩
 ·rename_i k1 a k2 b;split at h
  ·rename_i hs;exact⟨_,h.2,fun w=>key k1 k2 a b hk (fun _=>h.1.out) (fun hd=>by cases op<;>simp[kbR,kcu] at hs hd) w⟩
  ·rename_i hs;split at h
   ·exact⟨_,h.2,fun w=>key k1 k2 a b hk (fun h'=>absurd h' hs) (fun _=>h.1.out) w⟩
   ·rename_i hd;exact⟨_,h,fun w=>key k1 k2 a b hk (fun h'=>absurd h' hs) (fun h'=>absurd h' hd) w⟩
theorem kiy {op:BinOp} {x y:SV} {K:SV→Prop} (h:kdO std op x y K) (σ:Names) (P:Program) (t:TypeId)
  (hop:kco op=true) :
  ∃v,K v∧∀w,(binOp op t (den σ x) (den σ y)).run P w=.ok (den σ v) w:=by
 cases x<;>cases y<;>simp only[kdO] at h<;>(split at h;rotate_left;exact h.elim)
 all_goals (rename_i hk;rw[jg] at hk;subst hk;exact⟨_,h,fun w=>kgK P w op _ t _ _ hop⟩)
theorem kj0 {mx:Bool} {x y:SV} {K:SV→Prop} (h:mmV std mx x y K) (σ:Names) (P:Program) :
  ∃v,K v∧∀w,(if mx then Builtin.max2 (den σ x) (den σ y) else Builtin.min2 (den σ x) (den σ y)).run P w=.ok (den σ v) w:=by
 cases x<;>cases y<;>simp only[mmV] at h<;>(split at h;rotate_left;exact h.elim)
 all_goals (rename_i hk;rw[jg] at hk;subst hk;refine⟨_,h,fun w=>?_⟩;cases mx<;>simp[Builtin.max2,Builtin.min2,den,std])
theorem kcv {i:SV} {n:Nat} {K:Nat→Prop} (h:kf5 std i n K) (σ:Names):∃k m,den σ i=.int k m∧(0≤m∧m<(n:Int))∧K m.toNat:=by
 cases i<;>simp only[kf5] at h
 all_goals first|exact h.elim|exact⟨_,_,rfl,h.1.out,h.2⟩
theorem jk {row:List SV} {j:Nat} {K:SV→Prop} (h:rowAt row j K):∃v,row[j]?=some v∧K v:=by
 unfold rowAt at h;split at h
 ·exact⟨_,by assumption,h⟩
 ·exact h.elim


theorem kM {P:Program} {t:TypeId} {d:TypeDesc} (h:P.underlying t=some d) (w:World):(underlying t).run P w=.ok d w:=run_underlying h w
theorem kz {P:Program} {t:TypeId} {n:Nat} (h:kG P t=some n) (w:World):(sizeOf t).run P w=.ok n w:=by
 unfold kG at h;cases hi:P.info? t with
 |none=>simp[hi] at h
 |some i=>simp[hi] at h;simp[sizeOf,typeInfo,hi,h]
theorem jR {P:Program} {t:TypeId} {b:Bool} (h:kc2 P t=some b) (w:World):(isAgg t).run P w=.ok b w:=by
 unfold kc2 at h;unfold isAgg;cases hu:P.underlying t with
 |none=>simp[hu] at h
 |some d=>simp only[hu] at h;simp only[Sem.run_bind,kM hu,Result.andThen_ok];cases d<;>simp_all
theorem kd8 {P:Program} {t:TypeId} {z:List Value} (h:jn P t=some z) (w:World):∃v,(zeroValue t).run P w=.ok v w∧v.cells=z.toArray:=by
 unfold jn at h;cases hi:P.info? t with
 |none=>simp[hi] at h
 |some i=>
  cases hz:i.zero with
  |none=>simp[hi,hz] at h
  |some v=>simp[hi,hz] at h;exact⟨v,by simp[zeroValue,typeInfo,hi,hz],by rw[←h]⟩

theorem kf6 {v:Option SV} {dflt top:Nat} {K:Nat→Prop} (h:bnd std v dflt top K) (σ:Names) (P:Program) :
  ∃n,K n∧(v=none→n=dflt)∧∀u,v=some u→∀code w,(Instr.sliceBound (den σ u) top code).run P w=.ok n w:=by
 cases v with
 |none=>exact⟨dflt,h,fun _=>rfl,fun u hu=>by cases hu⟩
 | some v=>
  cases v<;>simp only[bnd] at h
  all_goals
   refine⟨_,h.2,(fun h0=>(Option.some_ne_none _ h0).elim),(fun u hu code w=>?_)⟩
   cases hu
   have:=h.1.out;simp only[Instr.sliceBound,den,asIntOf,Sem.run_bind,Sem.run_pure,Result.andThen_ok];rw[if_pos this];simp[std]

theorem kaI {v:SV} {K:List SV→Prop} (h:kal v K) (σ:Names):∃cs,K cs∧(den σ v).cells=(denL σ cs).toArray:=by
 cases v<;>simp only[kal] at h
 case val u=>
  split at h
  ·exact⟨_,h,rfl⟩
  ·exact⟨_,h,rfl⟩
  ·exact⟨_,h,rfl⟩
  ·exact⟨_,h,rfl⟩
  ·exact⟨_,h,rfl⟩
  ·exact h.elim
 all_goals exact⟨_,h,by simp[den,denL,Value.cells]⟩
theorem kgL:∀(cs:List SV) (row:List SV) (off:Nat),(kgG row off cs).length=row.length
 |[],_,_=>rfl
 |c::cs,row,off=>by simp[kgG,kgL cs]
theorem kd9 (σ:Names) (off:Nat):∀(cs:List SV) (row:List SV) (j:Nat),
  (((denL σ cs).zipIdx j).foldl (fun(a:Array Value) (x:Value×Nat)=>a.setIfInBounds (off+x.2) x.1) (denL σ row).toArray)=(denL σ (kgG row (off+j) cs)).toArray
 |[],row,j=>by simp[denL,kgG]
 |c::cs,row,j=>by
  have ih:=kd9 σ off cs (row.set (off+j) c) (j+1);simp only[kq] at ih ⊢
  simp only[List.map_cons,List.zipIdx_cons,kgG,List.foldl_cons,List.setIfInBounds_toArray];rw[←List.map_set];exact ih
theorem kj1 (σ:Names) (off:Nat) (cs row:List SV) :
  (((denL σ cs).toArray.zipIdx 0).foldl (fun(a:Array Value) (x:Value×Nat)=>a.setIfInBounds (off+x.2) x.1) (denL σ row).toArray)=(denL σ (kgG row off cs)).toArray:=by
 rw[←Array.foldl_toList,Array.toList_zipIdx];exact kd9 σ off cs row 0
theorem q9 {σ:Names} {s:SS} {place:Nat→Option (Nat×Nat)}:∀{parts:List (Nat×Operand)} {ps:List Part} {row:List SV} {K:List SV→Prop},
  jT place parts=some ps→kcq s ps row K →
  ∃row',K row'∧Instr.fill place (denL σ row).toArray (parts.map fun(i,x)=>(i,(act σ s).eval x))=some (denL σ row').toArray∧row'.length=row.length
 |[],ps,row,K,hp,h=>by
  simp only[jT,Option.some.injEq] at hp;subst hp
  exact⟨row,h,by simp[Instr.fill],rfl⟩
 |(i,x)::l,ps,row,K,hp,h=>by
  simp only[jT] at hp;split at hp
  rotate_left
  ·cases hp
  rename_i off sz y ps' hpl hx hl;simp only[Option.some.injEq] at hp;subst hp
  simp only[kcq] at h;obtain⟨cs,h,hcs⟩:=kaI h σ;split at h
  rotate_left
  ·exact h.elim
  rename_i hlen;split at h
  rotate_left
  ·exact h.elim
  rename_i hle;obtain⟨row',hK,hf,hr⟩:=q9 hl h;refine⟨row',hK,?_,by rw[hr,kgL]⟩
  simp only[List.map_cons,Instr.fill,hpl,ke hx,hcs];have hl2:cs.length=sz:=by simpa using hlen
  rw[if_neg (by simp[jC,hl2];omega)];rw[←hf];congr 1
  exact kj1 σ off cs row


theorem kds (P:Program) (w:World) (op:BinOp) (t:TypeId) (x y:Operand) (k k2:IntKind) (a b:Int):(eqGuard op t x y (.int k a) (.int k2 b)).run P w=.ok () w:=by
 cases op<;>simp[eqGuard]
theorem kgM {O:Ops} {op:BinOp} {k:IntKind} {x y:SV} {K:SV→Prop} (h:kd5 O op k x y K) (σ:Names):∃k1 k2 a b,den σ x=.int k1 a∧den σ y=.int k2 b:=by
 cases x<;>cases y<;>simp only[kd5] at h<;>exact⟨_,_,_,_,rfl,rfl⟩
theorem kgN {O:Ops} {op:BinOp} {x y:SV} {K:SV→Prop} (h:kdO O op x y K) (σ:Names):∃k1 k2 a b,den σ x=.int k1 a∧den σ y=.int k2 b:=by
 cases x<;>cases y<;>simp only[kdO] at h<;>exact⟨_,_,_,_,rfl,rfl⟩
theorem Ok.one_some {P:Program} {σ:Names} {s:SS} {w:World} (hok:Ok P σ s w) {b:Nat} {t:Nat} {row:List SV} (h:s.h[b]?=some (.one t row)):∃p,σ b=some p:=by
 obtain⟨b',hp,_⟩:=hok.blk b _ h;exact⟨_,hp⟩
theorem Ok.ints_some {P:Program} {σ:Names} {s:SS} {w:World} (hok:Ok P σ s w) {b:Nat} {t:Nat} {k:IntKind} {l:List Int} (h:s.h[b]?=some (.ints t k l)):∃p,σ b=some p:=by
 obtain⟨b',hp,_⟩:=hok.blk b _ h;exact⟨_,hp⟩
theorem Ok.arr_some {P:Program} {σ:Names} {s:SS} {w:World} (hok:Ok P σ s w) {b:Nat} {t sz len:Nat} {f:Nat→List SV} (h:s.h[b]?=some (.arr t sz len f)):∃p,σ b=some p:=by
 obtain⟨b',cs,hp,_⟩:=hok.blk b _ h;exact⟨_,hp⟩
theorem Ok.bufR_some {P:Program} {σ:Names} {s:SS} {w:World} (hok:Ok P σ s w) {b:Nat} {t sz c:Nat} {v:SV} {row:List SV} (h:s.h[b]?=some (.bufR t sz (v::row) c)):∃p,σ b=some p:=by
 rcases hok.blk b _ h with⟨_,h1,_⟩|⟨b',cs,hp,_⟩
 ·cases h1
 ·exact⟨_,hp⟩

theorem jN (b o:Nat) (n:Nat):(Addr.add ⟨b,o,none⟩ n)=⟨b,o+n,none⟩:=by
 unfold Addr.add;split
 ·rename_i h;subst h;rfl
 ·rfl

def kS (P:Program) (o:Oper) (σ:Names) (s:SS) (K:SV→Prop):Prop:=∃v,K v∧∀w,(execOp (act σ s).eval o).run P w=.ok (.value (den σ v)) w
section
variable {P:Program} {o:Oper} {σ:Names} {s:SS} {K:SV→Prop} {w0:World}
theorem kjk {x:Operand} {y:XO} (ho:o.op=.move x∨o.op=.assign x) (hx:cO x=some y) (h:K (ev s y)):kS P o σ s K:=
 ⟨_,h,fun w=>by rcases ho with ho|ho<;>simp[execOp,ho,ke hx]⟩
theorem kj2 {c a b:Operand} {c' a' b':XO} (ho:o.op=.pick c a b) (hc:cO c=some c') (ha:cO a=some a') (hb:cO b=some b')
  (h:ka1 (ev s c') (fun _=>K (ev s a')) (fun _=>K (ev s b'))):kS P o σ s K:=by
 cases hv:ev s c'<;>simp only[hv,ka1] at h
 rename_i t;cases t
 ·exact⟨_,h,fun w=>by simp[execOp,ho,ke hc,ke ha,ke hb,hv,den,asBool]⟩
 ·exact⟨_,h,fun w=>by simp[execOp,ho,ke hc,ke ha,ke hb,hv,den,asBool]⟩
theorem jD (hok:Ok P σ s w0) {b:Nat} {Q:Prop} (h:there s b Q):Q∧∃p,σ b=some p:=by
 unfold there at h;split at h
 ·exact⟨h,hok.one_some (by assumption)⟩
 ·exact⟨h,hok.ints_some (by assumption)⟩
 ·exact⟨h,hok.arr_some (by assumption)⟩
 ·exact⟨h,hok.bufR_some (by assumption)⟩
 ·rename_i hB;refine⟨h.2,?_⟩
  rcases hok.blk b _ hB with⟨_,h0,_⟩|⟨g,cs,hp,_⟩
  ·have:=h.1.out;omega
  ·exact⟨_,hp⟩
 ·rename_i hB;refine⟨h.2,?_⟩
  rcases hok.blk b _ hB with⟨_,h0⟩|⟨g,o,hp,_⟩
  ·have:=h.1.out;omega
  ·exact⟨_,hp⟩
 ·exact h.elim
theorem kgO (hok:Ok P σ s w0) {x:Operand} {y:XO} (ho:o.op=.nilCheck x) (hx:cO x=some y) (h:kA std (.nilchk y) s K):kS P o σ s K:=by
 simp only[kA] at h;cases hv:ev s y<;>simp only[hv] at h
 case ptr b i sz j=>
  obtain⟨h,p,hp⟩:=jD hok h;exact⟨_,h,fun w=>by simp[execOp,ho,ke hx,hv,den,hp]⟩
 case fn f cs=>exact⟨_,h,fun w=>by simp[execOp,ho,ke hx,hv,den]⟩
 case yield l=>exact⟨_,h,fun w=>by simp[execOp,ho,ke hx,hv,den]⟩
theorem klm {op:BinOp} {xt yt:TypeId} {x y:Operand} {x' y':XO} {k:IntKind} (ho:o.op=.binOp op xt x y yt) (hx:cO x=some x') (hy:cO y=some y')
  (hc:kco op=false) (h:kd5 std op k (ev s x') (ev s y') K):kS P o σ s K:=by
 obtain⟨v,hK,hr⟩:=kd7 h σ P xt hc;obtain⟨k1,k2,a,b,ha,hb⟩:=kgM h σ;refine⟨v,hK,fun w=>?_⟩
 have:=hr w;rw[ha,hb] at this;simp[execOp,ho,ke hx,ke hy,ha,hb,kds,this]
theorem kln {op:BinOp} {xt yt:TypeId} {x y:Operand} {x' y':XO} (ho:o.op=.binOp op xt x y yt) (hx:cO x=some x') (hy:cO y=some y')
  (hc:kco op=true) (h:kdO std op (ev s x') (ev s y') K):kS P o σ s K:=by
 obtain⟨v,hK,hr⟩:=kiy h σ P xt hc;obtain⟨k1,k2,a,b,ha,hb⟩:=kgN h σ;refine⟨v,hK,fun w=>?_⟩
 have:=hr w;rw[ha,hb] at this;simp[execOp,ho,ke hx,ke hy,ha,hb,kds,this]
theorem jO (t:TypeId) (a b:Value) (r:Bool) (h:∀d w,(Op.equalIn (d+1) t a b).run P w=.ok r w) (w:World):(Op.equal t a b).run P w=.ok r w:=h 9999 w
theorem klo (a b:List Int):((qd a).toList==(qd b).toList)=std.strEq a b:=by
 have e:∀l:List Int,(qd l).toList=l.map fun n=>UInt8.ofNat n.toNat:=by
  intro l;simp[qd,ByteArray.toList_eq]
 rw[e,e];rfl
end
end Go.Sx
namespace Go.Sx
open Go
section
variable {P:Program} {o:Oper} {σ:Names} {s:SS} {K:SV→Prop} {w0:World}

theorem koz {t:TypeId} (h:eqT P t=some 0):P.underlying t=some .bool:=by
  unfold eqT at h;split at h<;>simp_all
theorem klp {t:TypeId} (h:eqT P t=some 2):∃e,P.underlying t=some (.pointer e):=by
  unfold eqT at h;split at h<;>simp_all
theorem knI {t:TypeId} (h:eqT P t=some 3):∃a b c,P.underlying t=some (.func a b c):=by
  unfold eqT at h;split at h<;>simp_all
theorem koA {t:TypeId} (h:eqT P t=some 4):∃a,P.underlying t=some (.interface a):=by
  unfold eqT at h;split at h<;>simp_all
theorem koB {t:TypeId} (h:eqT P t=some 5):∃a,P.underlying t=some (.slice a):=by
  unfold eqT at h;split at h<;>simp_all
theorem kgP (hok:Ok P σ s w0) {b:Nat} {Q:Prop} (h:kc1 std s b Q):Q∧∃p,σ b=some p:=by
  unfold kc1 at h;split at h
  · rename_i hB
    refine⟨h.2,?_⟩
    rcases hok.blk b _ hB with⟨_,h0,_⟩|⟨g,cs,hp,_⟩
    · have:=h.1.out;simp_all [std]
    · exact⟨_,hp⟩
  · rename_i hB
    refine⟨h.2,?_⟩
    rcases hok.blk b _ hB with⟨_,h0⟩|⟨g,o,hp,_⟩
    · have:=h.1.out;simp_all [std]
    · exact⟨_,hp⟩
  · exact jD hok h
theorem kgQ {neg:Bool} {ty:Nat} {xt yt:TypeId} {x y:Operand} {x' y':XO} (hok:Ok P σ s w0) (ho:o.op=.binOp (if neg then .neq else .eql) xt x y yt) (hx:cO x=some x') (hy:cO y=some y')
    (ht:eqT P xt=some ty) (h:kjX std s neg ty (ev s x') (ev s y') (fun b=>K (.bool b))):kS P o σ s K:=by
  -- the run, out of what 'equal' gives
  have key:∀(a b:Value) (r:Bool),den σ (ev s x')=a→den σ (ev s y')=b →
      (∀w,(eqGuard (if neg then .neq else .eql) xt x y a b).run P w=.ok () w) →
      (∀w,(binOp (if neg then .neq else .eql) xt a b).run P w=.ok (.bool (if neg then !r else r)) w) →
      K (.bool (if neg then !r else r))→kS P o σ s K:=by
    intro a b r ha hb hg hr hK;exact⟨_,hK,fun w=>by simp[execOp,ho,ke hx,ke hy,ha,hb,hg w,hr w,den]⟩
  unfold kjX at h;split at h
  · rename_i a b hxa hyb
    refine key (.bool a) (.bool b) (a==b) (by rw[hxa];rfl) (by rw[hyb];rfl) (fun w=>by cases neg<;>simp[eqGuard]) (fun w=>?_) ?_
    · have e:=jO (P:=P) xt (.bool a) (.bool b) (a==b) (fun d w=>by simp[Op.equalIn,kM (koz ht)]) w
      cases neg<;>simp[binOp,e]
    · cases neg<;>simpa [std] using h
  · rename_i a b hxa hyb
    refine key (.string (qd a)) (.string (qd b)) (std.strEq a b) (by rw[hxa];rfl) (by rw[hyb];rfl) (fun w=>by cases neg<;>simp[eqGuard]) (fun w=>?_) ?_
    · have e:=klo a b
      cases neg<;>simp[binOp,Op.stringOp,e]
    · cases neg<;>simpa [std] using h
  · rename_i b i sz j hxa hyb
    obtain⟨h,p,hp⟩:=jD hok h;obtain⟨e,hu⟩:=klp ht;refine key (.pointer (some ⟨p.1,p.2+(ixN i*sz+j),none⟩)) (.pointer none) false (by rw[hxa];simp[den,hp]) (by rw[hyb];rfl) (fun w=>by cases neg<;>simp[eqGuard]) (fun w=>?_) ?_
    · have e:=jO (P:=P) xt (.pointer (some ⟨p.1,p.2+(ixN i*sz+j),none⟩)) (.pointer none) false (fun d w=>by simp[Op.equalIn,kM hu]) w
      cases neg<;>simp[binOp,e]
    · cases neg<;>simpa using h
  · rename_i b i sz j hxa hyb
    obtain⟨h,p,hp⟩:=jD hok h;obtain⟨e,hu⟩:=klp ht;refine key (.pointer none) (.pointer (some ⟨p.1,p.2+(ixN i*sz+j),none⟩)) false (by rw[hxa];rfl) (by rw[hyb];simp[den,hp]) (fun w=>by cases neg<;>simp[eqGuard]) (fun w=>?_) ?_
    · have e:=jO (P:=P) xt (.pointer none) (.pointer (some ⟨p.1,p.2+(ixN i*sz+j),none⟩)) false (fun d w=>by simp[Op.equalIn,kM hu]) w
      cases neg<;>simp[binOp,e]
    · cases neg<;>simpa using h
  · rename_i hxa hyb
    obtain⟨e,hu⟩:=klp ht;refine key (.pointer none) (.pointer none) true (by rw[hxa];rfl) (by rw[hyb];rfl) (fun w=>by cases neg<;>simp[eqGuard]) (fun w=>?_) ?_
    · have e:=jO (P:=P) xt (.pointer none) (.pointer none) true (fun d w=>by simp[Op.equalIn,kM hu]) w
      cases neg<;>simp[binOp,e]
    · cases neg<;>simpa using h
  · rename_i f cs hxa hyb
    obtain⟨a,b,c,hu⟩:=knI ht;refine key (.func (.func f) #[] (denL σ cs).toArray) .nilFunc false (by rw[hxa];rfl) (by rw[hyb];rfl) (fun w=>by cases neg<;>simp[eqGuard]) (fun w=>?_) ?_
    · have e:=jO (P:=P) xt (.func (.func f) #[] (denL σ cs).toArray) .nilFunc false (fun d w=>by simp[Op.equalIn,kM hu]) w
      cases neg<;>simp[binOp,e]
    · cases neg<;>simpa using h
  · rename_i hxa hyb
    obtain⟨a,b,c,hu⟩:=knI ht;refine key .nilFunc .nilFunc true (by rw[hxa];rfl) (by rw[hyb];rfl) (fun w=>by cases neg<;>simp[eqGuard]) (fun w=>?_) ?_
    · have e:=jO (P:=P) xt .nilFunc .nilFunc true (fun d w=>by simp[Op.equalIn,kM hu]) w
      cases neg<;>simp[binOp,e]
    · cases neg<;>simpa using h
  · rename_i t v hxa hyb
    obtain⟨a,hu⟩:=koA ht;refine key (.iface t (den σ v)) .nilIface false (by rw[hxa];rfl) (by rw[hyb];rfl) (fun w=>by cases neg<;>simp[eqGuard]) (fun w=>?_) ?_
    · have e:=jO (P:=P) xt (.iface t (den σ v)) .nilIface false (fun d w=>by simp[Op.equalIn,kM hu]) w
      cases neg<;>simp[binOp,e]
    · cases neg<;>simpa using h
  · obtain⟨a,hu⟩:=koB ht
    unfold kli at h;split at h
    · rename_i hyb
      split at h
      · rename_i b i sz len cap hxa
        obtain⟨h,p,hp⟩:=kgP hok h;refine key (.slice (some ⟨p.1,p.2+ixN i*sz,none⟩) len cap) (.slice none 0 0) false (by rw[hxa];simp[den,hp]) (by rw[hyb];rfl) (fun w=>by cases neg<;>simp[eqGuard]) (fun w=>?_) ?_
        · have e:=jO (P:=P) xt (.slice (some ⟨p.1,p.2+ixN i*sz,none⟩) len cap) (.slice none 0 0) false (fun d w=>by simp[Op.equalIn,kM hu]) w
          cases neg<;>simp[binOp,e]
        · cases neg<;>simpa using h
      · rename_i hxa
        refine key (.slice none 0 0) (.slice none 0 0) true (by rw[hxa];rfl) (by rw[hyb];rfl) (fun w=>by cases neg<;>simp[eqGuard]) (fun w=>?_) ?_
        · have e:=jO (P:=P) xt (.slice none 0 0) (.slice none 0 0) true (fun d w=>by simp[Op.equalIn,kM hu]) w
          cases neg<;>simp[binOp,e]
        · cases neg<;>simpa using h
      · rename_i q len cap hxa
        refine key (.slice (some q) len cap) (.slice none 0 0) false (by rw[hxa];rfl) (by rw[hyb];rfl) (fun w=>by cases neg<;>simp[eqGuard]) (fun w=>?_) ?_
        · have e:=jO (P:=P) xt (.slice (some q) len cap) (.slice none 0 0) false (fun d w=>by simp[Op.equalIn,kM hu]) w
          cases neg<;>simp[binOp,e]
        · cases neg<;>simpa using h
      · exact h.elim
    · exact h.elim
  · exact h.elim
theorem kc4 {v:SV} {K:List SV→Prop} (h:kdq v K) (σ:Names):∃cs,K cs∧den σ v=.agg (denL σ cs).toArray:=by
  cases v<;>simp only[kdq] at h
  case val u=>
    split at h
    · rename_i a
      refine⟨_,h,?_⟩
      have e:denL σ (a.toList.map ofV)=a.toList:=by
        rw[kq,List.map_map];conv=>rhs;rw[←List.map_id a.toList]
        apply List.map_congr_left
        intro v _;simp[kbz]
      rw[e];simp[den]
    · exact h.elim
  case agg cs=>exact⟨_,h,rfl⟩
theorem kdt {σ:Names} {xs0 ys0:List SV} (d:Nat):∀(fs:List Field) (i:Nat) (xs ys:List SV) (K:Bool→Prop),kby P i fs=true→qe std fs.length xs ys K →
    (∀k,xs0[i+k]?=xs[k]?)→(∀k,ys0[i+k]?=ys[k]?) →
    ∃r,K r∧∀w,(Op.eqFields (d+1) (denL σ xs0).toArray (denL σ ys0).toArray fs).run P w=.ok r w
  | [],i,xs,ys,K,hf,h,hx,hy=>by
    cases xs<;>cases ys<;>simp only[qe,List.length_nil] at h
    exact⟨true,h,by simp[Op.eqFields]⟩
  | f :: fs, i,xs,ys,K,hf,h,hx,hy=>by
    cases xs<;>cases ys<;>simp only[qe,List.length_cons] at h
    rename_i x xs y ys;simp only[kby,Bool.and_eq_true,bne_iff_ne,ne_eq,beq_iff_eq] at hf;obtain⟨⟨⟨⟨h1,h2⟩,h3⟩,h4⟩,h5⟩:=hf;obtain⟨k,hk⟩:∃k,P.underlying f.type=some (.int k):=by
      unfold kdN at h4;split at h4
      · rename_i k hk;exact⟨k,hk⟩
      · cases h4
    have key : ∃kk a b,den σ x=.int kk a∧den σ y=.int kk b∧∃t:Bool,(a==b)=t∧(if t then qe std fs.length xs ys K else K false):=by
      unfold kdO at h;split at h
      all_goals first
        |exact h.elim
        | (split at h
           · rename_i k1 a k2 b hkk
             rw[jg] at hkk;subst hkk;simp only[ka1,show std.c=cV from rfl,cV] at h;refine⟨k1,a,b,rfl,rfl,a==b,rfl,?_⟩
             cases hab:(a==b)<;>simp only[hab] at h<;>simpa using h
           · exact h.elim)
    obtain⟨kk,a,b,hxv,hyv,t,hab,h⟩:=key;have hx0:(denL σ xs0).toArray[f.offset]?=some (.int kk a):=by
      have:=hx 0;simp only[Nat.add_zero,List.getElem?_cons_zero] at this;rw[h2];simp[kq,this,hxv]
    have hy0:(denL σ ys0).toArray[f.offset]?=some (.int kk b):=by
      have:=hy 0;simp only[Nat.add_zero,List.getElem?_cons_zero] at this;rw[h2];simp[kq,this,hyv]
    have hpx:∀w,(part f.type (denL σ xs0).toArray f.offset).run P w=.ok (.int kk a) w:=by
      intro w;simp[part,jR h3,hx0]
    have hpy:∀w,(part f.type (denL σ ys0).toArray f.offset).run P w=.ok (.int kk b) w:=by
      intro w;simp[part,jR h3,hy0]
    have he:∀w,(Op.equalIn (d+1) f.type (.int kk a) (.int kk b)).run P w=.ok t w:=by
      intro w;simp[Op.equalIn,kM hk,←hab]
    simp only[Op.eqFields,ne_eq,h1,not_false_eq_true,if_true,Sem.run_bind,hpx,hpy,he,Result.andThen_ok];cases t
    · exact⟨false,by simpa using h,by simp⟩
    · simp only[if_true] at h
      obtain⟨r,hK,hr⟩:=kdt (σ:=σ) (xs0:=xs0) (ys0:=ys0) d fs (i+1) xs ys K h5 h
        (fun k=>by have:=hx (k+1);rw[List.getElem?_cons_succ] at this;rw[←this];congr 1;omega)
        (fun k=>by have:=hy (k+1);rw[List.getElem?_cons_succ] at this;rw[←this];congr 1;omega)
      exact⟨r,hK,by simpa using hr⟩
theorem kbT {σ:Names} {xs0 ys0:List SV} (d:Nat) {e:TypeId} (h3:kc2 P e=some false) (hk:∃k,P.underlying e=some (.int k)):∀(m i:Nat) (xs ys:List SV) (K:Bool→Prop),qe std m xs ys K →
    (∀k,xs0[i+k]?=xs[k]?)→(∀k,ys0[i+k]?=ys[k]?) →
    ∃r,K r∧∀w,(Op.eqItems (d+1) e 1 (denL σ xs0).toArray (denL σ ys0).toArray (List.range' i m)).run P w=.ok r w
  | 0,i,xs,ys,K,h,hx,hy=>by
    cases xs<;>cases ys<;>simp only[qe] at h
    exact⟨true,h,by simp[Op.eqItems]⟩
  | m + 1, i,xs,ys,K,h,hx,hy=>by
    cases xs<;>cases ys<;>simp only[qe] at h
    rename_i x xs y ys;obtain⟨k,hk'⟩:=hk;have key : ∃kk a b,den σ x=.int kk a∧den σ y=.int kk b∧∃t:Bool,(a==b)=t∧(if t then qe std m xs ys K else K false):=by
      unfold kdO at h;split at h
      all_goals first
        |exact h.elim
        | (split at h
           · rename_i k1 a k2 b hkk
             rw[jg] at hkk;subst hkk;simp only[ka1,show std.c=cV from rfl,cV] at h;refine⟨k1,a,b,rfl,rfl,a==b,rfl,?_⟩
             cases hab:(a==b)<;>simp only[hab] at h<;>simpa using h
           · exact h.elim)
    obtain⟨kk,a,b,hxv,hyv,t,hab,h⟩:=key;have hx0:(denL σ xs0).toArray[i*1]?=some (.int kk a):=by
      have:=hx 0;simp only[Nat.add_zero,List.getElem?_cons_zero] at this;simp[kq,this,hxv]
    have hy0:(denL σ ys0).toArray[i*1]?=some (.int kk b):=by
      have:=hy 0;simp only[Nat.add_zero,List.getElem?_cons_zero] at this;simp[kq,this,hyv]
    have hpx:∀w,(part e (denL σ xs0).toArray (i*1)).run P w=.ok (.int kk a) w:=by
      intro w;simp only[Nat.mul_one] at hx0 ⊢
      simp[part,jR h3,hx0]
    have hpy:∀w,(part e (denL σ ys0).toArray (i*1)).run P w=.ok (.int kk b) w:=by
      intro w;simp only[Nat.mul_one] at hy0 ⊢
      simp[part,jR h3,hy0]
    have he:∀w,(Op.equalIn (d+1) e (.int kk a) (.int kk b)).run P w=.ok t w:=by
      intro w;simp[Op.equalIn,kM hk',←hab]
    simp only[List.range'_succ,Op.eqItems,Sem.run_bind,hpx,hpy,he,Result.andThen_ok];cases t
    · exact⟨false,by simpa using h,by simp⟩
    · simp only[if_true] at h
      obtain⟨r,hK,hr⟩:=kbT (σ:=σ) (xs0:=xs0) (ys0:=ys0) d h3 ⟨k,hk'⟩ m (i+1) xs ys K h
        (fun k=>by have:=hx (k+1);rw[List.getElem?_cons_succ] at this;rw[←this];congr 1;omega)
        (fun k=>by have:=hy (k+1);rw[List.getElem?_cons_succ] at this;rw[←this];congr 1;omega)
      exact⟨r,hK,by simpa using hr⟩
theorem kgR {neg:Bool} {n:Nat} {xt yt:TypeId} {x y:Operand} {x' y':XO} (ho:o.op=.binOp (if neg then .neq else .eql) xt x y yt) (hx:cO x=some x') (hy:cO y=some y')
    (ht:kf2 P xt=some n) (h:kA std (.eqR neg n x' y') s K):kS P o σ s K:=by
  simp only[kA] at h;obtain⟨xs,h,hxd⟩:=kc4 h σ;obtain⟨ys,h,hyd⟩:=kc4 h σ;unfold kf2 at ht;split at ht
  rotate_left
  · rename_i m e hu
    split at ht
    rotate_left
    · cases ht
    rename_i hc;simp only[Option.some.injEq] at ht;subst ht;simp only[Bool.and_eq_true,Bool.not_eq_true',beq_iff_eq] at hc;obtain⟨⟨⟨h3,h4⟩,h5⟩,h6⟩:=hc;have hk:∃k,P.underlying e=some (.int k):=by
      unfold kdN at h4;split at h4
      · rename_i k hk;exact⟨k,hk⟩
      · cases h4
    obtain⟨i,hi⟩:∃i,P.info? e=some i:=by
      unfold kG at h5;cases hi:P.info? e with
      |none=>rw[hi] at h5;cases h5
      |some i=>exact⟨i,rfl⟩
    have h1:P.cellsOf e=1:=by
      unfold kG at h5;unfold Program.cellsOf;rw[h5];rfl
    obtain⟨r,hK,hr⟩:=kbT (P:=P) (σ:=σ) (xs0:=xs) (ys0:=ys) 9998 h3 hk m 0 xs ys _ h (fun k=>by simp) (fun k=>by simp);have e:∀w,(Op.equal xt (.agg (denL σ xs).toArray) (.agg (denL σ ys).toArray)).run P w=.ok r w:=by
      intro w;have:=run_equalIn_array (P:=P) (w:=w) 9999 (denL σ xs).toArray (denL σ ys).toArray hu hi;rw[h1,List.range_eq_range',hr w] at this;exact this
    refine⟨.bool (if neg then !r else r),hK,fun w=>?_⟩
    have hg:(eqGuard (if neg then .neq else .eql) xt x y (.agg (denL σ xs).toArray) (.agg (denL σ ys).toArray)).run P w=.ok () w:=by cases neg<;>simp[eqGuard,h6]
    have hb:(binOp (if neg then .neq else .eql) xt (.agg (denL σ xs).toArray) (.agg (denL σ ys).toArray)).run P w=.ok (.bool (if neg then !r else r)) w:=by cases neg<;>simp[binOp,e w]
    simp[execOp,ho,ke hx,ke hy,hxd,hyd,hg,hb,den]
  · cases ht
  rename_i fs hu;split at ht
  rotate_left
  · cases ht
  rename_i hc;simp only[Option.some.injEq] at ht;subst ht;simp only[Bool.and_eq_true,Bool.not_eq_true'] at hc;have hfs:P.fieldsOf xt=fs:=by simp[Program.fieldsOf,hu]
  have hsz:fs.size=fs.toList.length:=by simp
  rw[hsz] at h;obtain⟨r,hK,hr⟩:=kdt (P:=P) (σ:=σ) (xs0:=xs) (ys0:=ys) 9998 fs.toList 0 xs ys _ hc.1.1 h (fun k=>by simp) (fun k=>by simp);have e:∀w,(Op.equal xt (.agg (denL σ xs).toArray) (.agg (denL σ ys).toArray)).run P w=.ok r w:=by
    intro w;have:=run_equalIn_struct (P:=P) w 9999 xt (denL σ xs).toArray (denL σ ys).toArray (by rw[hfs];exact hu) hc.1.2;rw[hfs,hr w] at this;exact this
  refine⟨.bool (if neg then !r else r),hK,fun w=>?_⟩
  have hg:(eqGuard (if neg then .neq else .eql) xt x y (.agg (denL σ xs).toArray) (.agg (denL σ ys).toArray)).run P w=.ok () w:=by cases neg<;>simp[eqGuard,hc.2]
  have hb:(binOp (if neg then .neq else .eql) xt (.agg (denL σ xs).toArray) (.agg (denL σ ys).toArray)).run P w=.ok (.bool (if neg then !r else r)) w:=by cases neg<;>simp[binOp,e w]
  simp[execOp,ho,ke hx,ke hy,hxd,hyd,hg,hb,den]
theorem klq {xt:TypeId} {x:Operand} {y:XO} (ho:o.op=.unOp .not xt x) (hx:cO x=some y) (h:kA std (.not y) s K):kS P o σ s K:=by
  simp only[kA] at h;cases hv:ev s y<;>simp only[hv] at h
  exact⟨_,h,fun w=>by simp[execOp,ho,ke hx,hv,den,Op.unary,std]⟩
theorem klr {xt:TypeId} {x:Operand} {y:XO} {k:IntKind} (ho:o.op=.unOp .neg xt x) (hx:cO x=some y) (h:kA std (.neg k y) s K):kS P o σ s K:=by
  simp only[kA] at h;obtain⟨v,hK,hr⟩:=kd7 h σ P 0 rfl;cases hv:ev s y<;>simp only[hv,kd5] at h
  all_goals
    split at h
    rotate_left
    · exact h.elim
    rename_i hk;simp only[kbR,Bool.false_or,Bool.and_eq_true,jg] at hk;refine⟨v,hK,fun w=>?_⟩
    have:=hr w;rw[hv] at this;simp only[den] at this;simp only[execOp,ho,ke hx,hv,den,Op.unary,Sem.run_bind];obtain⟨_,rfl⟩:=hk;simp only[binOp,ne_eq,not_true,if_false] at this;simp[this]
theorem kls {xt:TypeId} {x:Operand} {y:XO} {k:IntKind} (ho:o.op=.unOp .xor xt x) (hx:cO x=some y) (h:kA std (.cpl k y) s K):kS P o σ s K:=by
  simp only[kA] at h;obtain⟨n,hn,hK⟩:=jz h (σ:=σ);exact⟨_,hK,fun w=>by simp[execOp,ho,ke hx,hn,den,Op.unary,Op.intBits,std,bV]⟩
theorem kj3 {src dst:TypeId} {x:Operand} {y:XO} {k k0:IntKind} (ho:o.op=.convert src dst x) (hs:P.underlying src=some (.int k0)) (hd:P.underlying dst=some (.int k)) (hx:cO x=some y)
    (h:kA std (.conv k y) s K):kS P o σ s K:=by
  simp only[kA] at h;cases hv:ev s y<;>simp only[hv] at h
  all_goals exact⟨_,h,fun w=>by simp[execOp,ho,ke hx,hv,den,convert,kM hs,kM hd,Conv.intToInt,std]⟩
theorem kiz {src dst:TypeId} {x:Operand} {y:XO} (ho:o.op=.convert src dst x) (hs:P.underlying src=some .string) (hd:P.underlying dst=some .string) (hx:cO x=some y)
    (h:kA std (.mvS y) s K):kS P o σ s K:=by
  simp only[kA] at h;cases hv:ev s y<;>simp only[hv] at h
  exact⟨_,h,fun w=>by simp[execOp,ho,ke hx,hv,den,convert,kM hs,kM hd]⟩
theorem kj4 {t:TypeId} {x:Operand} {y:XO} {f n:Nat} {fs:Array Field} {g:Field} (ho:o.op=.fieldAddr t x f) (ht:P.underlying t=some (.struct fs)) (hf:fs[f]?=some g) (hn:kG P g.type=some (n+1))
    (hx:cO x=some y) (hok:Ok P σ s w0) (h:kA std (.fadr g.offset y) s K):kS P o σ s K:=by
  simp only[kA] at h;cases hv:ev s y<;>simp only[hv] at h
  rename_i b i sz j;obtain⟨h,p,hp⟩:=jD hok h;exact⟨_,h,fun w=>by simp[execOp,ho,ke hx,hv,den,hp,Instr.fieldAt,kM ht,hf,Instr.sureAddr,fieldPlace,kz hn,jN,Nat.add_assoc]⟩
end
end Go.Sx
namespace Go.Sx
open Go
section
variable {P:Program} {o:Oper} {σ:Names} {s:SS} {K:SV→Prop} {w0:World}

theorem kgS {t:TypeId} {x:Operand} {y:XO} {f:Nat} {fs:Array Field} {g:Field} {ag:Option Nat} (ho:o.op=.field t x f) (ht:P.underlying t=some (.struct fs)) (hf:fs[f]?=some g)
  (hg:(kc2 P g.type=some true∧∃n,kG P g.type=some n∧ag=some n)∨(kc2 P g.type=some false∧ag=none))
  (hx:cO x=some y) (h:kA std (.fld g.offset ag y) s K):kS P o σ s K:=by
 simp only[kA] at h;cases hv:ev s y<;>simp only[hv] at h
 rename_i cs;rcases hg with⟨ha,n,hn,rfl⟩|⟨ha,rfl⟩
 ·simp only at h
  split at h
  rotate_left
  ·exact h.elim
  refine⟨_,h,fun w=>?_⟩
  simp[execOp,ho,ke hx,hv,den,Instr.field,kM ht,hf,asAgg,part,jR ha,kz hn,kq,List.map_take,List.map_drop]
 ·simp only at h
  obtain⟨v,hv2,hK⟩:=jk h;refine⟨v,hK,fun w=>?_⟩
  simp[execOp,ho,ke hx,hv,den,Instr.field,kM ht,hf,asAgg,part,jR ha,kq,hv2]
theorem kj5 {t:TypeId} {x i:Operand} {y j:XO} (ho:o.op=.index t x i) (ht:P.underlying t=some .string) (hx:cO x=some y) (hi:cO i=some j)
  (h:kA std (.idxS y j) s K):kS P o σ s K:=by
 simp only[kA] at h;cases hv:ev s y<;>simp only[hv] at h
 rename_i l;obtain⟨k,m,hm,hb,hK⟩:=kcv h σ;refine⟨_,hK,fun w=>?_⟩
 have hlt:m.toNat<l.length:=by have:=hb.2;simp only[std] at this;omega
 have hget:(qd l)[m.toNat]?=some (UInt8.ofNat ((l.getD m.toNat 0).toNat)):=by
  have:(qd l).size=l.length:=by simp[qd,ByteArray.size]
  rw[getElem?_pos (qd l) m.toNat (by rw[this];exact hlt)];simp[qd,ByteArray.getElem_eq_getElem_data,List.getD,hlt]
 simp only[execOp,ho,ke hx,ke hi,hv,hm,den,Instr.index,asIntOf,Sem.run_bind,Sem.run_pure,Result.andThen_ok,kM ht];rw[if_pos hb.1,hget];simp[std]
theorem kea (sz:Nat):∀(n:Nat) (l:List SV),ke9 sz n l=l.drop (n*sz)
 |0,l=>by simp[ke9]
 |n+1,l=>by
  rw[ke9,kea sz n,List.drop_drop];congr 1
  rw[Nat.succ_mul];omega
theorem kgT:∀(n:Nat) (l:List SV),takeA n l=l.take n
 |0,l=>by simp[takeA]
 |n+1,[]=>by simp[takeA]
 |n+1,v::l=>by rw[takeA,kgT n l];rfl
theorem kj6 {t e:TypeId} {x i:Operand} {y j:XO} {m n:Nat} {ag:Bool} (ho:o.op=.index t x i) (ht:P.underlying t=some (.array m e)) (hs:kG P e=some n) (ha:kc2 P e=some ag)
  (hx:cO x=some y) (hi:cO i=some j) (h:kA std (.idxA m n ag y j) s K):kS P o σ s K:=by
 simp only[kA] at h;obtain⟨cs,h,hcs⟩:=kc4 h σ;split at h
 rotate_left
 ·exact h.elim
 rename_i hl;have hl:cs.length=m*n:=by simpa using hl
 obtain⟨k,q,hq,hb,h⟩:=kcv h σ;have hlt:q.toNat<m:=by omega
 have hmul:q.toNat*n+n≤m*n:=by
  have:=Nat.mul_le_mul_right n (Nat.succ_le_of_lt hlt);rw[Nat.succ_mul] at this;exact this
 cases ag with
 |true=>
  rw[if_pos rfl,kgT,kea] at h;refine⟨_,h,fun w=>?_⟩
  simp only[execOp,ho,ke hx,ke hi,hcs,hq,den,Instr.index,asIntOf,Sem.run_bind,Sem.run_pure,Result.andThen_ok,kM ht];rw[if_pos hb];simp[part,jR ha,kz hs,kq,List.map_take,List.map_drop]
 | false=>
  rw[if_neg (by simp)] at h;split at h
  rotate_left
  ·exact h.elim
  rename_i h1;obtain rfl:n=1:=by simpa using h1
  rw[kea,Nat.mul_one] at h;rw[Nat.mul_one] at hl;have hlt':q.toNat<cs.length:=by omega
  have hd:headA (cs.drop q.toNat)=cs[q.toNat]:=by
   rw[List.drop_eq_getElem_cons hlt'];rfl
  rw[hd] at h;refine⟨_,h,fun w=>?_⟩
  simp only[execOp,ho,ke hx,ke hi,hcs,hq,Instr.index,asIntOf,Sem.run_bind,Sem.run_pure,Result.andThen_ok,kM ht];rw[if_pos hb];simp[part,jR ha,kz hs,kq,hlt']
theorem kmR (ix:Ix) (n:Nat):ixN (ka8 std ix n)=ixN ix+n:=by cases ix<;>simp[ka8,ixN,std]
theorem kj7 {t e:TypeId} {x i:Operand} {y j:XO} {sz:Nat} (hok:Ok P σ s w0) (ho:o.op=.indexAddr t x i) (ht:P.underlying t=some (.slice e)) (hs:kG P e=some sz) (hx:cO x=some y) (hi:cO i=some j)
  (h:kA std (.iadr sz y j) s K):kS P o σ s K:=by
 simp only[kA] at h;cases hv:ev s y<;>simp only[hv] at h
 rename_i b ix sz' len cap;split at h
 rotate_left
 ·exact h.elim
 rename_i hsz;obtain rfl:sz=sz':=by simpa using hsz
 obtain⟨k,m,hm,hb,h⟩:=kcv h σ;have key:(∃p,σ b=some p)→K (.ptr b (ka8 std ix m.toNat) sz 0)→kS P o σ s K:=by
  rintro⟨p,hp⟩ hK;refine⟨_,hK,fun w=>?_⟩
  simp only[execOp,ho,ke hx,ke hi,hv,hm,den,Instr.indexAt,asIntOf,Sem.run_bind,Sem.run_pure,Result.andThen_ok,kM ht,hp,Option.map_some];rw[if_pos hb];simp[kz hs,jN,kmR,Nat.add_mul,Nat.add_assoc]
 split at h
 ·rename_i l hB;refine key ?_ h.2
  rcases hok.blk b _ hB with⟨_,rfl⟩|⟨b',o',hp,_⟩
  ·have:=h.1.out;simp[std] at this
  ·exact⟨_,hp⟩
 ·rename_i sz2 n f hB;refine key ?_ h.2
  rcases hok.blk b _ hB with⟨_,rfl⟩|⟨b',o',hp,_⟩
  ·have:=h.1.out;omega
  ·exact⟨_,hp⟩
 ·rename_i tt sz2 n f c hB;refine key ?_ h.2
  rcases hok.blk b _ hB with⟨_,rfl,_⟩|⟨b',cs,hp,_⟩
  ·have:=h.1.out;omega
  ·exact⟨_,hp⟩
 ·rename_i tt kk l c hB;refine key ?_ h.2
  rcases hok.blk b _ hB with⟨_,rfl,_⟩|⟨b',l',hp,_⟩
  ·have:=h.1.out;simp[std] at this
  ·exact⟨_,hp⟩
 ·exact key (hok.ints_some (by assumption)) h
 ·exact key (hok.one_some (by assumption)) h
 ·exact key (hok.arr_some (by assumption)) h
 ·exact key (hok.bufR_some (by assumption)) h
 ·exact h.elim
theorem kiA {t e:TypeId} {x i:Operand} {y j:XO} {m sz:Nat} (hok:Ok P σ s w0) (ho:o.op=.indexAddr t x i) (ht:P.underlying t=some (.array m e)) (hs:kG P e=some sz) (hx:cO x=some y) (hi:cO i=some j)
  (h:kA std (.iadrA m sz y j) s K):kS P o σ s K:=by
 simp only[kA] at h;cases hv:ev s y<;>simp only[hv] at h
 rename_i b ix sz' jj;split at h
 rotate_left
 ·exact h.elim
 obtain⟨k,n,hn,hb,h⟩:=kcv h σ;obtain⟨h,p,hp⟩:=jD hok h;refine⟨_,h,fun w=>?_⟩
 simp only[execOp,ho,ke hx,ke hi,hv,hn,den,Instr.indexAt,asIntOf,Sem.run_bind,Sem.run_pure,Result.andThen_ok,kM ht,hp,Option.map_some,Instr.sureAddr];rw[if_pos hb];simp[kz hs,jN,ixN]
 omega
theorem kaJ (s:SS) (σ:Names) {a:Option Operand} {b:Option XO} (h:cOO a=some b):a.map (act σ s).eval=(b.map (ev s)).map (den σ):=by
 cases a with
 |none=>simp only[cOO,Option.some.injEq] at h;subst h;rfl
 |some x=>
  simp only[cOO] at h;split at h
  ·rename_i y hy;simp only[Option.some.injEq] at h;subst h;simp[ke hy]
  ·cases h
theorem kb3 {isSlice:Bool} {len cap:Nat} {lo hi mx:Option SV} {K:Nat→Nat→Nat→Prop} (σ:Names) (P:Program) (hmx:mx.isNone=true∨hi.isSome=true)
  (h:bnd std mx cap cap (fun m=>bnd std hi len m (fun h=>bnd std lo 0 h (fun l=>K l h m)))) :
  ∃l h m,K l h m∧(lo=none→l=0)∧∀w,(Instr.sliceBounds isSlice len cap (lo.map (den σ)) (hi.map (den σ)) (mx.map (den σ))).run P w=.ok (l,h,m) w:=by
 obtain⟨m,h,hm0,hm⟩:=kf6 h σ P;obtain⟨hh,h,hh0,hh1⟩:=kf6 h σ P;obtain⟨l,h,hl0,hl⟩:=kf6 h σ P;refine⟨l,hh,m,h,hl0,fun w=>?_⟩
 cases mx with
 | none=>
  obtain rfl:=hm0 rfl;cases hi with
  |none=>
   obtain rfl:=hh0 rfl;cases lo with
   |none=>obtain rfl:=hl0 rfl;simp[Instr.sliceBounds]
   |some lo=>simp[Instr.sliceBounds,hl lo rfl]
  |some hi=>
   cases lo with
   |none=>obtain rfl:=hl0 rfl;simp[Instr.sliceBounds,hh1 hi rfl]
   |some lo=>simp[Instr.sliceBounds,hh1 hi rfl,hl lo rfl]
 | some mx=>
  cases hi with
  |none=>simp at hmx
  |some hi=>
   cases lo with
   |none=>obtain rfl:=hl0 rfl;simp[Instr.sliceBounds,hm mx rfl,hh1 hi rfl]
   |some lo=>simp[Instr.sliceBounds,hm mx rfl,hh1 hi rfl,hl lo rfl]
theorem klt {t e:TypeId} {x:Operand} {y:XO} {sz:Nat} {lo hi mx:Option Operand} {lo' hi' mx':Option XO} (ho:o.op=.slice t x lo hi mx) (ht:P.underlying t=some (.slice e)) (hs:kG P e=some sz) (hx:cO x=some y)
  (hlo:cOO lo=some lo') (hhi:cOO hi=some hi') (hmx:cOO mx=some mx') (h:kA std (.slc sz y lo' hi' mx') s K):kS P o σ s K:=by
 simp only[kA] at h;split at h
 rotate_left
 ·rename_i a len cap hv;split at h
  rotate_left
  ·exact h.elim
  rename_i hsz;simp only[Bool.and_eq_true,Option.isNone_iff_eq_none] at hsz;obtain⟨rfl,rfl⟩:=hsz;obtain⟨l,hh,m,hK,hl0,hr⟩:=kb3 (K:=fun _ h m=>K (.val (.slice (some a) h m))) (isSlice:=true) σ P (by simp) h;refine⟨_,hK,fun w=>?_⟩
  simp only[execOp,ho,ke hx,hv,den,kaJ s σ hlo,kaJ s σ hhi,kaJ s σ hmx,Instr.sliceAt,Sem.run_bind,kM ht,Result.andThen_ok,Instr.slice,hr w,kz hs,Sem.run_pure];obtain rfl:=hl0 rfl;simp[Addr.add]
 ·exact h.elim
 rename_i b ix sz' len cap hv;split at h
 rotate_left
 ·exact h.elim
 rename_i hsz;simp only[Bool.and_eq_true,Bool.or_eq_true,beq_iff_eq] at hsz;obtain⟨rfl,hmh⟩:=hsz;obtain⟨l,hh,m,hK,hl0,hr⟩:=kb3 (isSlice:=true) σ P (by simpa using hmh) h;refine⟨_,hK,fun w=>?_⟩
 simp only[execOp,ho,ke hx,hv,den,kaJ s σ hlo,kaJ s σ hhi,kaJ s σ hmx,Instr.sliceAt,Sem.run_bind,kM ht,Result.andThen_ok,Instr.slice,hr w,kz hs,Sem.run_pure];cases lo' with
 |none=>
  obtain rfl:=hl0 rfl;cases σ b<;>simp[Addr.add]
 | some lo'=>
  simp only[std,ixN];by_cases hml:m=l
  ·simp[hml]
  ·simp only[if_neg hml];cases σ b with
   |none=>rfl
   |some p=>simp[jN,Nat.add_mul,Nat.add_assoc]
theorem kj8 {t e:TypeId} {x:Operand} {y:XO} {n sz:Nat} {lo hi mx:Option Operand} {lo' hi' mx':Option XO} (hok:Ok P σ s w0) (ho:o.op=.slice t x lo hi mx) (ht:P.underlying t=some (.array n e)) (hs:kG P e=some sz) (hx:cO x=some y)
  (hlo:cOO lo=some lo') (hhi:cOO hi=some hi') (hmx:cOO mx=some mx') (h:kA std (.slcA n sz y lo' hi' mx') s K):kS P o σ s K:=by
 simp only[kA] at h;cases hv:ev s y<;>simp only[hv] at h
 rename_i b ix sz' j;split at h
 rotate_left
 ·exact h.elim
 obtain⟨h,p,hp⟩:=jD hok h;split at h
 ·exact h.elim
 rename_i hmh;obtain⟨l,hh,m,hK,hl0,hr⟩:=kb3 (isSlice:=false) σ P (by cases mx'<;>cases hi'<;>simp at hmh ⊢) h;refine⟨_,hK,fun w=>?_⟩
 simp only[execOp,ho,ke hx,hv,den,hp,Option.map_some,kaJ s σ hlo,kaJ s σ hhi,kaJ s σ hmx,Instr.sliceAt,Sem.run_bind,kM ht,Result.andThen_ok,hr w,kz hs,Sem.run_pure,Instr.sureAddr];cases lo' with
 |none=>
  obtain rfl:=hl0 rfl;simp[Addr.add,ixN]
 |some lo'=>
  simp only[std,ixN];by_cases hml:m=l
  ·simp[hml]
  ·simp[hml,jN]
theorem klu {x:Operand} {t e:TypeId} {y:XO} {args:Array Operand} {tys:Array TypeId} (ho:o.op=.call { callee:=.builtin .len,args:=args,argTypes:=tys }) (ha:args.toList=[x]) (hty:tys.toList=[t])
  (ht:P.underlying t=some (.slice e)) (hx:cO x=some y) (h:kA std (.len y) s K):kS P o σ s K:=by
 obtain⟨args⟩:=args;obtain⟨tys⟩:=tys;simp only at ha hty
 subst ha hty;simp only[kA] at h;split at h
 ·rename_i hv;exact⟨_,h,fun w=>by simp[execOp,ho,resolve,invoke,builtin,Builtin.len_,kM ht,ke hx,hv,den,goInt,std]⟩
 ·rename_i hv;exact⟨_,h,fun w=>by simp[execOp,ho,resolve,invoke,builtin,Builtin.len_,kM ht,ke hx,hv,den,goInt]⟩
 ·rename_i hv;exact⟨_,h,fun w=>by simp[execOp,ho,resolve,invoke,builtin,Builtin.len_,kM ht,ke hx,hv,den,goInt,std]⟩
 ·exact h.elim
theorem kj9 {x:Operand} {t:TypeId} {y:XO} {args:Array Operand} {tys:Array TypeId} (ho:o.op=.call { callee:=.builtin .len,args:=args,argTypes:=tys }) (ha:args.toList=[x]) (hty:tys.toList=[t])
  (ht:P.underlying t=some .string) (hx:cO x=some y) (h:kA std (.lenS y) s K):kS P o σ s K:=by
 obtain⟨args⟩:=args;obtain⟨tys⟩:=tys;simp only at ha hty
 subst ha hty;simp only[kA] at h;cases hv:ev s y<;>simp only[hv] at h
 rename_i l;have e:(qd l).size=l.length:=by simp[qd,ByteArray.size]
 exact⟨_,h,fun w=>by simp[execOp,ho,resolve,invoke,builtin,Builtin.len_,kM ht,ke hx,hv,den,goInt,std,e]⟩
theorem kjl {mx:Bool} {x y:Operand} {x' y':XO} {args:Array Operand} {tys:Array TypeId} (ho:o.op=.call { callee:=.builtin (if mx then .max else .min),args:=args,argTypes:=tys }) (ha:args.toList=[x,y])
  (hx:cO x=some x') (hy:cO y=some y') (h:mmV std mx (ev s x') (ev s y') K):kS P o σ s K:=by
 obtain⟨args⟩:=args;simp only at ha
 subst ha;obtain⟨v,hK,hr⟩:=kj0 h σ P;refine⟨v,hK,fun w=>?_⟩
 have:=hr w;cases mx
 ·rw[if_neg (by decide)] at this ho;simp[execOp,ho,resolve,invoke,builtin,Builtin.min_,ke hx,ke hy,this]
 ·rw[if_pos rfl] at this ho;simp[execOp,ho,resolve,invoke,builtin,Builtin.max_,ke hx,ke hy,this]
theorem kka {f:FuncId} {first cap:Array Operand} {cs:List XO} (ho:o.op=.makeFunc (.func f) first cap) (hf:first.isEmpty=true) (hc:cOs cap.toList=some cs) (h:K (.fn f (cs.map (ev s)))):kS P o σ s K:=by
 refine⟨_,h,fun w=>?_⟩
 have hf':first=#[]:=by
  obtain⟨first⟩:=first
  cases first with
  |nil=>rfl
  |cons a l=>cases hf
 have e:cap.map (act σ s).eval=(denL σ (cs.map (ev s))).toArray:=by
  rw[←kbA (σ:=σ) (s:=s) hc,←Array.toList_map]
 simp[execOp,ho,Instr.makeFunc,den,hf',e]
theorem kf7 {x:Operand} {y:XO} {i:Nat} (ho:o.op=.extract x i) (hx:cO x=some y) (h:kA std (.extract y i) s K):kS P o σ s K:=by
 simp only[kA] at h;cases hv:ev s y<;>simp only[hv] at h
 obtain⟨v,hv2,hK⟩:=jk h;exact⟨v,hK,fun w=>by simp[execOp,ho,ke hx,hv,den,Instr.extract,kq,hv2]⟩
theorem kkb {t:TypeId} {x:Operand} {y:XO} {d:TypeDesc} (ho:o.op=.makeInterface t x) (ht:P.underlying t=some d) (hd:∀ms,d≠.interface ms) (hx:cO x=some y) (h:K (.iface t (ev s y))):kS P o σ s K:=by
 refine⟨_,h,fun w=>?_⟩
 cases d<;>first|exact absurd rfl (hd _)|simp[execOp,ho,Instr.makeInterface,kM ht,ke hx,den]
theorem klv {t xt:TypeId} {x:Operand} {y:XO} {d:TypeDesc} (ho:o.op=.typeAssert x xt t true) (ht:P.underlying t=some d) (hd:∀ms,d≠.interface ms) (hx:cO x=some y) (h:kA std (.tas t y) s K):kS P o σ s K:=by
 simp only[kA] at h;cases hv:ev s y<;>simp only[hv] at h
 rename_i t' v;split at h
 rotate_left
 ·exact h.elim
 rename_i he;obtain rfl:t'=t:=by simpa using he
 refine⟨_,h,fun w=>?_⟩
 cases d<;>first|exact absurd rfl (hd _)|simp[execOp,ho,Instr.typeAssert,kM ht,ke hx,hv,den,denL]
theorem run_places (w:World):∀(fs:List Field) (r:List (Nat×Nat)),kbx P fs=some r →
  (fs.mapM (m:=Sem) (fun f=>do let n ←sizeOf f.type;pure (f.offset,n))).run P w=.ok r w
 |[],r,h=>by simp only[kbx,Option.some.injEq] at h;subst h;simp
 |f::fs,r,h=>by
  simp only[kbx] at h;split at h
  rotate_left
  ·cases h
  rename_i n r' hn hr;simp only[Option.some.injEq] at h;subst h
  have ih:=run_places w fs r' hr;rw[List.mapM_cons];simp only[Sem.run_bind,kz hn,Result.andThen_ok,Sem.run_pure,ih]
theorem keb {t:TypeId} {parts:Array (Nat×Operand)} {z:List Value} {ps:List Part} (ho:o.op=.build t parts) (hz:jn P t=some z)
  (hp:(∃fs r,P.underlying t=some (.struct fs)∧kbx P fs.toList=some r∧jT (fun i=>r[i]?) parts.toList=some ps) ∨
   (∃m e n,P.underlying t=some (.array m e)∧kG P e=some n∧jT (fun i=>some (i*n,n)) parts.toList=some ps))
  (h:kA std (.build (z.map ofV) ps) s K):kS P o σ s K:=by
 simp only[kA] at h;obtain⟨zv,hzv,hcells⟩:∃v,(∀w,(zeroValue t).run P w=.ok v w)∧v.cells=z.toArray:=by
  obtain⟨v,h1,h2⟩:=kd8 hz default;refine⟨v,fun w=>?_,h2⟩
  obtain⟨v',h3,h4⟩:=kd8 hz w;unfold jn at hz;cases hi:P.info? t with
  |none=>simp[hi] at hz
  |some i=>
   cases hz0:i.zero with
   |none=>simp[hi,hz0] at hz
   |some v0=>simp[zeroValue,typeInfo,hi,hz0] at h1 h3 ⊢;rw[h1]
 have hzd:denL σ (z.map ofV)=z:=by
  rw[kq,List.map_map];conv=>rhs;rw[←List.map_id z]
  apply List.map_congr_left
  intro v _;simp[kbz]
 have hmap:(parts.map fun x:Nat×Operand=>(x.1,(act σ s).eval x.2)).toList=parts.toList.map fun x=>(x.1,(act σ s).eval x.2):=by simp
 rcases hp with⟨fs,r,hu,hr,hp⟩|⟨m,e,n,hu,hn,hp⟩
 ·obtain⟨row',hK,hf,_⟩:=q9 (σ:=σ) hp h;refine⟨_,hK,fun w=>?_⟩
  have hpl:(fs.mapM (m:=Sem) (fun f=>do let n ←sizeOf f.type;pure (f.offset,n))).run P w=.ok r.toArray w:=by
   rw[Array.mapM_eq_mapM_toList];simp only[Sem.run_map,run_places w _ _ hr,Result.andThen_ok]
  rw[hzd] at hf;simp only[execOp,ho,Instr.build,Sem.run_bind,hzv w,Result.andThen_ok,hcells,kM hu,hpl];have hf':Instr.fill (fun x=>r.toArray[x]?) z.toArray (Array.map (fun x=>(x.fst,(act σ s).eval x.snd)) parts).toList=some (denL σ row').toArray:=by
   rw[hmap,←hf];congr 1;funext i;simp
  rw[hf'];simp[den]
 ·obtain⟨row',hK,hf,_⟩:=q9 (σ:=σ) hp h;refine⟨_,hK,fun w=>?_⟩
  rw[hzd] at hf;simp only[execOp,ho,Instr.build,Sem.run_bind,hzv w,Result.andThen_ok,hcells,kM hu,kz hn];have hf':Instr.fill (fun i=>some (i*n,n)) z.toArray (Array.map (fun x=>(x.fst,(act σ s).eval x.snd)) parts).toList=some (denL σ row').toArray:=by
   rw[hmap,←hf]
  rw[hf'];simp[den]

theorem kec {x:XOp} (hok:Ok P σ s w0) (hc:kao P o=some x) (h:kA std x s K):kS P o σ s K:=by
 unfold kao at hc;split at hc
 ·rename_i y ho;simp only[Option.map_eq_some_iff] at hc;obtain⟨y',hy,rfl⟩:=hc;exact kjk (.inl ho) hy h
 ·rename_i y ho;simp only[Option.map_eq_some_iff] at hc;obtain⟨y',hy,rfl⟩:=hc;exact kjk (.inr ho) hy h
 ·rename_i c a b ho;split at hc
  ·rename_i c' a' b' h1 h2 h3;simp only[Option.some.injEq] at hc;subst hc
   exact kj2 ho h1 h2 h3 h
  ·cases hc
 ·rename_i t parts ho;split at hc
  ·rename_i z fs hz hu;split at hc
   ·rename_i r hr;simp only[Option.map_eq_some_iff] at hc;obtain⟨ps,hps,rfl⟩:=hc;exact keb ho hz (.inl ⟨fs,r,hu,hr,hps⟩) h
   ·cases hc
  ·rename_i z m e hz hu;split at hc
   ·rename_i n hn;simp only[Option.map_eq_some_iff] at hc;obtain⟨ps,hps,rfl⟩:=hc;exact keb ho hz (.inr ⟨m,e,n,hu,hn,hps⟩) h
   ·cases hc
  ·cases hc
 ·rename_i y ho;simp only[Option.map_eq_some_iff] at hc;obtain⟨y',hy,rfl⟩:=hc;exact kgO hok ho hy h
 ·rename_i op xt a b yt ho;split at hc
  ·rename_i a' b' h1 h2;split at hc
   ·rename_i k hk;split at hc
    ·rename_i hcmp;simp only[Option.some.injEq] at hc;subst hc
     exact kln ho h1 h2 hcmp h
    ·rename_i hcmp;simp only[Option.some.injEq] at hc;subst hc
     exact klm ho h1 h2 (by simpa using hcmp) h
   ·split at hc
    ·rename_i ty hty;simp only[Option.some.injEq] at hc;subst hc
     exact kgQ (neg:=false) hok ho h1 h2 hty h
    ·rename_i ty hty;simp only[Option.some.injEq] at hc;subst hc
     exact kgQ (neg:=true) hok ho h1 h2 hty h
    ·split at hc
     ·simp only[Option.some.injEq] at hc;subst hc
      exact kgR (neg:=false) ho h1 h2 (by assumption) h
     ·simp only[Option.some.injEq] at hc;subst hc
      exact kgR (neg:=true) ho h1 h2 (by assumption) h
     ·cases hc
  ·cases hc
 ·rename_i op xt a ho;split at hc
  ·rename_i a' h1;split at hc
   ·simp only[Option.some.injEq] at hc;subst hc
    exact klq ho h1 h
   ·simp only[Option.map_eq_some_iff] at hc;obtain⟨k,hk,rfl⟩:=hc;exact klr ho h1 h
   ·simp only[Option.map_eq_some_iff] at hc;obtain⟨k,hk,rfl⟩:=hc;exact kls ho h1 h
   ·cases hc
  ·cases hc
 ·rename_i src dst a ho;split at hc
  ·rename_i a' h1;split at hc
   ·rename_i k0 k hs hd;simp only[Option.some.injEq] at hc;subst hc
    exact kj3 ho hs hd h1 h
   ·rename_i hs hd;simp only[Option.some.injEq] at hc;subst hc
    exact kiz ho hs hd h1 h
   ·cases hc
  ·cases hc
 ·rename_i t a ho;split at hc
  ·cases hc
  ·rename_i d a' hni hd h1;simp only[Option.some.injEq] at hc;subst hc
   exact kkb ho hd (fun ms e=>hni ms e) h1 h
  ·cases hc
 ·rename_i a xt t ok ho;split at hc
  ·cases hc
  ·rename_i d a' hni hd h1;split at hc
   ·rename_i hok2;subst hok2;simp only[Option.some.injEq] at hc;subst hc
    exact klv ho hd (fun ms e=>hni ms e) h1 h
   ·cases hc
  ·cases hc
 ·rename_i f first cap ho
  split at hc
  ·rename_i hf;simp only[Option.map_eq_some_iff] at hc;obtain⟨cs,hcs,rfl⟩:=hc;exact kka ho hf hcs h
  ·cases hc
 ·rename_i t a lo hi mx ho;split at hc
  ·rename_i a' lo' hi' mx' h1 h2 h3 h4;split at hc
   ·rename_i e he;simp only[Option.map_eq_some_iff] at hc;obtain⟨n,hn,rfl⟩:=hc;exact klt ho he hn h1 h2 h3 h4 h
   ·rename_i m e he;simp only[Option.map_eq_some_iff] at hc;obtain⟨n,hn,rfl⟩:=hc;exact kj8 hok ho he hn h1 h2 h3 h4 h
   ·cases hc
  ·cases hc
 ·rename_i t a f ho;split at hc
  ·rename_i a' fs h1 ht;split at hc
   ·rename_i g hg;split at hc
    ·rename_i n hn;simp only[Option.some.injEq] at hc;subst hc
     exact kj4 ho ht hg hn h1 hok h
    ·cases hc
   ·cases hc
  ·cases hc
 ·rename_i t a f ho;split at hc
  ·rename_i a' fs h1 ht;split at hc
   ·rename_i g hg;split at hc
    ·rename_i ha;simp only[Option.map_eq_some_iff] at hc;obtain⟨n,hn,rfl⟩:=hc;exact kgS ho ht hg (.inl ⟨ha,n,hn,rfl⟩) h1 h
    ·rename_i ha;simp only[Option.some.injEq] at hc;subst hc
     exact kgS ho ht hg (.inr ⟨ha,rfl⟩) h1 h
    ·cases hc
   ·cases hc
  ·cases hc
 ·rename_i t a i ho;split at hc
  ·rename_i a' i' h1 h2 ht;simp only[Option.some.injEq] at hc;subst hc
   exact kj5 ho ht h1 h2 h
  ·rename_i a' i' m e h1 h2 ht;split at hc
   ·rename_i n ag hn ha;simp only[Option.some.injEq] at hc;subst hc
    exact kj6 ho ht hn ha h1 h2 h
   ·cases hc
  ·cases hc
 ·rename_i t a i ho;split at hc
  ·rename_i a' i' h1 h2;split at hc
   ·rename_i e he;simp only[Option.map_eq_some_iff] at hc;obtain⟨n,hn,rfl⟩:=hc;exact kj7 hok ho he hn h1 h2 h
   ·rename_i m e he;split at hc
    ·cases hc
    ·simp only[Option.map_eq_some_iff] at hc;obtain⟨n,hn,rfl⟩:=hc;exact kiA hok ho he hn h1 h2 h
   ·cases hc
  ·cases hc
 ·rename_i a i ho;simp only[Option.map_eq_some_iff] at hc;obtain⟨y',hy,rfl⟩:=hc;exact kf7 ho hy h
 ·rename_i args tys ho;split at hc
  ·rename_i a t ha ht;split at hc
   ·rename_i a' e h1 he;simp only[Option.some.injEq] at hc;subst hc
    exact klu ho ha ht he h1 h
   ·rename_i a' h1 he;simp only[Option.some.injEq] at hc;subst hc
    exact kj9 ho ha ht he h1 h
   ·cases hc
  ·cases hc
 ·rename_i args tys ho;split at hc
  ·rename_i a b ha;split at hc
   ·rename_i a' b' h1 h2;simp only[Option.some.injEq] at hc;subst hc
    exact kjl (mx:=true) ho ha h1 h2 h
   ·cases hc
  ·cases hc
 ·rename_i args tys ho;split at hc
  ·rename_i a b ha;split at hc
   ·rename_i a' b' h1 h2;simp only[Option.some.injEq] at hc;subst hc
    exact kjl (mx:=false) ho ha h1 h2 h
   ·cases hc
  ·cases hc
 ·cases hc
end
end Go.Sx
namespace Go.Sx
open Go
section
variable {P:Program} {o:Oper} {σ:Names} {s:SS} {K:SV→Prop} {w:World}

theorem kj {b:Nat} {cs:Array Value} {t:TypeId} (h:w.heap[b]?=some (.cells cs t (0,0))) (i:Nat):w.cell? ⟨b,i,none⟩=cs[i]?:=by
 simp[World.cell?,h]
theorem kQ {b:Nat} {cs:Array Value} {t:TypeId} (h:w.heap[b]?=some (.cells cs t (0,0))) (i:Nat):w.frozen? ⟨b,i,none⟩=false:=by
 simp[World.frozen?,h]
theorem kb4 {l:List Int} {i:Nat} {k:IntKind} (h:i<l.length):((l.map (Value.int k)).toArray)[i]?=some (.int k (l.getD i 0)):=by
 simp[List.getD,h]
theorem kaa {l l':List Int} {i:Nat} {k:IntKind} (h:i<l.length):(((l++l').map (Value.int k)).toArray)[i]?=some (.int k (l.getD i 0)):=by
 simp only[List.getElem?_toArray,List.getElem?_map];rw[List.getElem?_append_left h,List.getElem?_eq_getElem h];simp[List.getD,h]
theorem kkc {B:SB} {p:Option (Nat×Nat)} {ix:Ix} {sz j:Nat} (hb:holds P σ p w B) (h:ldB std B ix sz j K) :
  ∃v q,K v∧p=some q∧w.cell? ⟨q.1,q.2+(ixN ix*sz+j),none⟩=some (den σ v):=by
 unfold ldB at h;split at h
 ·rename_i t row;obtain⟨b,rfl,hh⟩:=hb;obtain⟨v,hv,hK⟩:=jk h;refine⟨v,_,hK,rfl,?_⟩
  rw[kj hh];simp[ixN,kq,hv]
 ·rename_i t row i;obtain⟨b,rfl,hh⟩:=hb;obtain⟨v,hv,hK⟩:=jk h;refine⟨v,_,hK,rfl,?_⟩
  rw[kj hh];simp[ixN,kq,hv]
 ·rename_i t k l;obtain⟨b,rfl,hh⟩:=hb;split at h
  ·refine⟨_,_,h.2,rfl,?_⟩
   rw[kj hh,kb4 (by have:=h.1.out;simpa [std,ixN] using this)];simp[ixN,den,std]
  ·refine⟨_,_,h.2,rfl,?_⟩
   rw[kj hh,kb4 (by have:=h.1.out;simpa [std,ixN] using this)];simp[ixN,den,std]
 ·rename_i t k l i;obtain⟨b,rfl,hh⟩:=hb;split at h
  ·refine⟨_,_,h.2,rfl,?_⟩
   rw[kj hh,kb4 (by have:=h.1.out;simpa [std,ixN] using this)];simp[ixN,den,std]
  ·exact h.elim
 ·rename_i t k l c;rcases hb with⟨rfl,rfl,_⟩|⟨b,l',rfl,hh,_⟩
  ·split at h<;>(have:=h.1.out;simp[std] at this)
  ·split at h
   ·refine⟨_,_,h.2,rfl,?_⟩
    rw[kj hh,kaa (by have:=h.1.out;simpa [std,ixN] using this)];simp[ixN,den,std]
   ·refine⟨_,_,h.2,rfl,?_⟩
    rw[kj hh,kaa (by have:=h.1.out;simpa [std,ixN] using this)];simp[ixN,den,std]
 ·rename_i t k l c i;split at h
  ·rcases hb with⟨rfl,rfl,_⟩|⟨b,l',rfl,hh,_⟩
   ·have:=h.1.out;simp[std] at this
   ·refine⟨_,_,h.2,rfl,?_⟩
    rw[kj hh,kaa (by have:=h.1.out;simpa [std,ixN] using this)];simp[ixN,den,std]
  ·exact h.elim
 ·rename_i k l;split at h
  ·rcases hb with⟨rfl,rfl⟩|⟨b,o,rfl,hh⟩
   ·have:=h.1.out;simp[std] at this
   ·refine⟨_,_,h.2,rfl,?_⟩
    have:=hh 0 (by have:=h.1.out;simpa [std] using this);simpa [ixN,den,std] using this
  ·exact h.elim
 ·rename_i k l i;split at h
  ·rcases hb with⟨rfl,rfl⟩|⟨b,o,rfl,hh⟩
   ·have:=h.1.out;simp[std] at this
   ·refine⟨_,_,h.2,rfl,?_⟩
    have:=hh i (by have:=h.1.out;simpa [std] using this);simpa [ixN,den,std] using this
  ·exact h.elim
 ·rename_i t sz' len f i;split at h
  rotate_left
  ·exact h.elim
  rename_i hsz;obtain rfl:sz=sz':=by simpa using hsz
  obtain⟨b,cs,rfl,hh,hc,hf⟩:=hb;obtain⟨hi,h⟩:=h;obtain⟨v,hv,hK⟩:=jk h;refine⟨v,_,hK,rfl,?_⟩
  rw[kj hh];simpa [ixN] using(hf i hi.out).2 j v hv
 ·rename_i t sz' len f;split at h
  rotate_left
  ·exact h.elim
  rename_i hsz;obtain rfl:sz=sz':=by simpa using hsz
  obtain⟨b,cs,rfl,hh,hc,hf⟩:=hb;obtain⟨hi,h⟩:=h;obtain⟨v,hv,hK⟩:=jk h;refine⟨v,_,hK,rfl,?_⟩
  rw[kj hh];simpa [ixN] using(hf 0 hi.out).2 j v hv
 ·rename_i t sz' row c i;split at h
  rotate_left
  ·exact h.elim
  rename_i hsz;obtain rfl:sz=sz':=by simpa using hsz
  obtain⟨v,hv,hK⟩:=jk h;rcases hb with⟨_,rfl,_⟩|⟨b,rest,rfl,hh,_⟩
  ·simp at hv
  refine⟨v,_,hK,rfl,?_⟩
  rw[kj hh];have hl:=(List.getElem?_eq_some_iff.1 hv).1;simp only[List.getElem?_toArray];rw[List.getElem?_append_left (by rw[kq,List.length_map];simpa [ixN] using hl)];simp[ixN,kq,hv]
 ·rename_i t sz' row c;split at h
  rotate_left
  ·exact h.elim
  rename_i hsz;obtain rfl:sz=sz':=by simpa using hsz
  obtain⟨v,hv,hK⟩:=jk h;rcases hb with⟨_,rfl,_⟩|⟨b,rest,rfl,hh,_⟩
  ·simp at hv
  refine⟨v,_,hK,rfl,?_⟩
  rw[kj hh];have hl:=(List.getElem?_eq_some_iff.1 hv).1;simp only[List.getElem?_toArray];rw[List.getElem?_append_left (by rw[kq,List.length_map];simpa [ixN] using hl)];simp[ixN,kq,hv]
 ·rename_i sz' len f i;split at h
  rotate_left
  ·exact h.elim
  rename_i hsz;obtain rfl:sz=sz':=by simpa using hsz
  obtain⟨hi,h⟩:=h;rcases hb with⟨_,rfl⟩|⟨b,o,rfl,hf⟩
  ·have:=hi.out;omega
  obtain⟨v,hv,hK⟩:=jk h;refine⟨v,_,hK,rfl,?_⟩
  simpa [ixN] using(hf i hi.out).2 j v hv
 ·rename_i sz' len f;split at h
  rotate_left
  ·exact h.elim
  rename_i hsz;obtain rfl:sz=sz':=by simpa using hsz
  obtain⟨hi,h⟩:=h;rcases hb with⟨_,rfl⟩|⟨b,o,rfl,hf⟩
  ·have:=hi.out;omega
  obtain⟨v,hv,hK⟩:=jk h;refine⟨v,_,hK,rfl,?_⟩
  simpa [ixN] using(hf 0 hi.out).2 j v hv
 ·rename_i t sz' len f c i;split at h
  rotate_left
  ·exact h.elim
  rename_i hsz;obtain rfl:sz=sz':=by simpa using hsz
  obtain⟨hi,h⟩:=h;rcases hb with⟨_,rfl,_⟩|⟨b,cs,rfl,hh,hc,_,hf⟩
  ·have:=hi.out;omega
  obtain⟨v,hv,hK⟩:=jk h;refine⟨v,_,hK,rfl,?_⟩
  rw[kj hh];simpa [ixN] using(hf i hi.out).2 j v hv
 ·rename_i t sz' len f c;split at h
  rotate_left
  ·exact h.elim
  rename_i hsz;obtain rfl:sz=sz':=by simpa using hsz
  obtain⟨hi,h⟩:=h;rcases hb with⟨_,rfl,_⟩|⟨b,cs,rfl,hh,hc,_,hf⟩
  ·have:=hi.out;omega
  obtain⟨v,hv,hK⟩:=jk h;refine⟨v,_,hK,rfl,?_⟩
  rw[kj hh];simpa [ixN] using(hf 0 hi.out).2 j v hv
 ·exact h.elim
theorem kfa {x:SV} (hok:Ok P σ s w) (h:ld1 std s x K):∃v a,K v∧den σ x=.pointer (some a)∧w.cell? a=some (den σ v):=by
 unfold ld1 at h;split at h
 rotate_left
 ·exact h.elim
 rename_i b i sz j;split at h
 rotate_left
 ·exact h.elim
 rename_i B hB;obtain⟨v,q,hK,hq,hc⟩:=kkc (hok.blk b B hB) h;exact⟨v,_,hK,by simp[den,hq],hc⟩
theorem kfb {b:Nat} {i:Ix} {sz:Nat} (hok:Ok P σ s w):∀{n j:Nat} {K:List SV→Prop},ldN std s b i sz n j K →
  ∃vs,K vs∧vs.length=n∧∀k v,vs[k]?=some v→∃q,σ b=some q∧w.cell? ⟨q.1,q.2+(ixN i*sz+j)+k,none⟩=some (den σ v)
 |0,j,K,h=>⟨[],h,rfl,fun k v hk=>by simp at hk⟩
 | n+1,j,K,h=>by
  simp only[ldN] at h;obtain⟨v,a,h,ha,hc⟩:=kfa hok h;obtain⟨vs,hK,hl,hvs⟩:=kfb hok h;refine⟨v::vs,hK,by simp[hl],fun k u hk=>?_⟩
  cases k with
  |zero=>
   simp at hk;subst hk
   simp only[den] at ha;cases hq:σ b with
   |none=>simp[hq] at ha
   |some q=>simp[hq] at ha;subst ha;exact⟨q,rfl,hc⟩
  |succ k=>
   simp at hk
   obtain⟨q,hq,hc⟩:=hvs k u hk;exact⟨q,hq,by rw[←hc];congr 2;omega⟩
def knY (P:Program) (o:Oper) (σ:Names) (s:SS) (w:World) (K:SV→Prop):Prop:=∃v,K v∧(execOp (act σ s).eval o).run P w=.ok (.value (den σ v)) w
theorem kiB {v:SV} {b len:Nat} (h:klg v=some (b,len)):∃c,v=.val (.slice (some ⟨b,0,none⟩) len c):=by
 unfold klg at h;split at h
 ·split at h
  ·rename_i c _ _;cases h;exact⟨_,rfl⟩
  ·cases h
 ·cases h
theorem kaK {k:IntKind} {v:SV} {K:List Int→Nat→Prop} (hok:Ok P σ s w) (h:kf1 std s k v K) :
  ∃xs m,K xs m∧xs.length=m ∧
   (∃a c,den σ v=.slice a m c∧(∀b,a=some b→∀i,i<m→w.cell? (b.add i)=some (.int k (xs.getD i 0)))∧(a=none→m=0)):=by
 unfold kf1 at h;split at h
 ·rename_i b ix len cap;have key:∀(l:List Int) (q:Option (Nat×Nat)),σ b=q→ixN ix+len≤l.length→(q=none→len=0) →
    (∀p,q=some p→∀i,i<l.length→w.cell? ⟨p.1,p.2+i,none⟩=some (.int k (l.getD i 0)))→K (std.sub l (ixN ix) len) len →
    ∃xs m,K xs m∧xs.length=m ∧
     (∃a c,den σ (.slice b ix 1 len cap)=.slice a m c∧(∀b,a=some b→∀i,i<m→w.cell? (b.add i)=some (.int k (xs.getD i 0)))∧(a=none→m=0)):=by
   intro l q hq hl h0 hc hK;refine⟨_,_,hK,by simp[std];omega,⟨_,_,rfl,?_,?_⟩⟩
   ·intro a ha i hi;cases q with
    |none=>simp[hq] at ha
    |some p=>
     simp[hq] at ha
     subst ha;rw[jN,Nat.add_assoc,hc p rfl (ixN ix+i) (by omega)];simp[std,List.getD,List.getElem?_take,hi]
   ·intro ha;cases q with
    |none=>exact h0 rfl
    |some p=>simp[hq] at ha
  split at h
  ·rename_i t k' l hB;split at h
   rotate_left
   ·exact h.elim
   rename_i hk;rw[jg] at hk;subst hk
   obtain⟨b',hp,hh⟩:=hok.blk b _ hB;refine key l _ hp (by simpa [std] using h.1.out) (fun h=>by cases h) (fun p hp i hi=>?_) h.2
   cases hp
   rw[kj hh,kb4 (by simpa using hi)];simp
  ·rename_i t k' l c hB;split at h
   rotate_left
   ·exact h.elim
   rename_i hk;rw[jg] at hk;subst hk
   rcases hok.blk b _ hB with⟨hp,rfl,_⟩|⟨b',l',hp,hh,_⟩
   ·refine key [] _ hp (by simpa [std] using h.1.out) (fun _=>by have:=h.1.out;simp[std] at this;omega) (fun p hp=>by cases hp) h.2
   ·refine key l _ hp (by simpa [std] using h.1.out) (fun h=>by cases h) (fun p hp i hi=>?_) h.2
    cases hp
    rw[kj hh,kaa (by simpa using hi)];simp
  ·rename_i k' l hB;split at h
   rotate_left
   ·exact h.elim
   rename_i hk;rw[jg] at hk;subst hk
   rcases hok.blk b _ hB with⟨hp,rfl⟩|⟨b',o',hp,hh⟩
   ·refine key [] _ hp (by simpa [std] using h.1.out) (fun _=>by have:=h.1.out;simp[std] at this;omega) (fun p hp=>by cases hp) h.2
   ·refine key l _ hp (by simpa [std] using h.1.out) (fun h=>by cases h) (fun p hp i hi=>?_) h.2
    cases hp
    exact hh i hi
  ·exact h.elim
 ·exact⟨[],0,h,rfl,⟨none,0,rfl,fun b hb=>(by cases hb),fun _=>rfl⟩⟩
 ·split at h
  ·rename_i b len hr;obtain⟨l,hc,hle,hK⟩:=h;obtain⟨t,l',hh⟩:=hok.cold.there b _ hc;obtain⟨c,hv⟩:=kiB hr;have hle':len≤l.length:=by simpa [std] using hle.out
   refine⟨_,_,hK,by simp[std];omega,⟨_,c,by rw[hv];rfl,fun a ha i hi=>?_,fun ha=>(by cases ha)⟩⟩
   cases ha
   rw[jN,Nat.zero_add,kj hh,kaa (by omega)];simp[std,List.getD,List.getElem?_take,hi]
  ·exact h.elim
theorem kkd (ns:List Int):∀(r:ByteArray),ns.foldl (fun r n=>r.push (UInt8.ofNat n.toNat)) r=⟨r.data++(ns.map fun n=>UInt8.ofNat n.toNat).toArray⟩:=by
 induction ns with
 |nil=>intro r;simp
 |cons n ns ih=>
  intro r;rw[List.foldl_cons,ih];congr 1
  simp[ByteArray.push]
theorem kb5 {x:XOp} (hok:Ok P σ s w) (hc:kaq P o=some x) (h:kaH std x s K):knY P o σ s w K:=by
 unfold kaq at hc;split at hc
 ·rename_i t a ho;split at hc
  ·rename_i a' ha hag;split at hc
   rotate_left
   ·cases hc
   rename_i n hn;simp only[Option.some.injEq] at hc;subst hc
   simp only[kaH] at h;cases hv:ev s a'<;>simp only[hv] at h
   rename_i b i sz j;obtain⟨vs,hK,hl,hvs⟩:=kfb hok h;refine⟨_,hK,?_⟩
   obtain⟨v0,hv0⟩:∃v0,vs[0]?=some v0:=⟨vs[0]'(by omega),List.getElem?_eq_getElem (by omega)⟩;obtain⟨q,hq,_⟩:=hvs 0 v0 hv0;have hrun:(loadCells ⟨q.1,q.2+(ixN i*sz+j),none⟩ (denL σ vs).length).run P w=.ok (denL σ vs).toArray w:=by
    refine run_loadCells_list w _ _ (fun k v hk=>?_)
    rw[jq] at hk;cases hvk:vs[k]? with
    |none=>simp[hvk] at hk
    |some u=>
     simp[hvk] at hk;subst hk
     obtain⟨q',hq',hc'⟩:=hvs k u hvk;rw[hq] at hq';cases hq'
     rw[jN];exact hc'
   rw[jC,hl] at hrun;simp[execOp,ho,ke ha,hv,den,hq,Instr.loadAt,Instr.sureAddr,loadVar,jR hag,kz hn,hrun]
  ·rename_i a' ha hag;simp only[Option.some.injEq] at hc;subst hc
   simp only[kaH] at h;obtain⟨v,ad,hK,had,hc⟩:=kfa hok h;refine⟨v,hK,?_⟩
   simp[execOp,ho,ke ha,had,Instr.loadAt,Instr.sureAddr,loadVar,jR hag,hc]
  ·cases hc
 ·rename_i src dst a ho;split at hc
  ·rename_i a' e ha hs hd;split at hc
   ·rename_i he;simp only[Option.some.injEq] at hc;subst hc
    simp only[kaH] at h;obtain⟨xs,m,hK,hl,hsrc⟩:=kaK hok h;refine⟨_,hK,?_⟩
    obtain⟨ad,c,hden,hcell,h0⟩:=hsrc
    ·have hr:(Conv.bytesToString (.slice ad m c)).run P w=.ok (.string (qd xs)) w:=by
      cases ad with
      |none=>
       obtain rfl:=h0 rfl;obtain rfl:xs=[]:=List.eq_nil_of_length_eq_zero hl;simp[Conv.bytesToString,qd];rfl
      | some ad=>
       rw[run_bytesToString w ad m c xs,kkd]
       ·simp[qd]
       ·have:=run_loadCells_list (P:=P) w ad (xs.map (Value.int .u8)) (fun j v hj=>by
         simp only[List.getElem?_map,Option.map_eq_some_iff] at hj;obtain⟨n,hn,rfl⟩:=hj;have hlt:=(List.getElem?_eq_some_iff.1 hn).1;rw[hcell ad rfl j (by omega)];simp[List.getD,hn])
        rw[List.length_map,hl] at this;exact this
     simp only[execOp,ho,ke ha,hden,convert,Sem.run_bind,kM hs,kM hd,Result.andThen_ok,kM he,hr,Sem.run_pure,den]
   ·cases hc
  ·cases hc
 ·cases hc
end
end Go.Sx
namespace Go.Sx
open Go

theorem memN_iff {n:Nat}:∀{l:List Nat},ka4 n l=true↔n∈l
 |[]=>by simp[ka4]
 |m::l=>by
  simp only[ka4];split
  ·rename_i h;simp at h;simp[h]
  ·rename_i h;simp at h;rw[memN_iff];simp[h]
mutual
theorem kab {R:List Nat} {σ σ':Names} (hσ:∀i,i∉R→σ' i=σ i):∀(v:SV),men R v=false→den σ' v=den σ v
 |.undef,_=>rfl
 |.val _,_=>rfl
 |.bool _,_=>rfl
 |.lit _ _,_=>rfl
 |.int _ _,_=>rfl
 |.str _,_=>rfl
 |.ptr b i sz j,h=>by simp only[men] at h;simp only[den];rw[hσ b (by rw[←memN_iff];simp[h])]
 |.slice b i sz len cap,h=>by simp only[men] at h;simp only[den];rw[hσ b (by rw[←memN_iff];simp[h])]
 |.yield b,h=>by simp only[men] at h;simp only[den];rw[hσ b (by rw[←memN_iff];simp[h])]
 |.fn _ cs,h=>by simp only[men] at h;simp only[den];rw[men_denL hσ cs h]
 |.iface _ v,h=>by simp only[men] at h;simp only[den];rw[kab hσ v h]
 |.agg cs,h=>by simp only[men] at h;simp only[den];rw[men_denL hσ cs h]
 |.tup cs,h=>by simp only[men] at h;simp only[den];rw[men_denL hσ cs h]
theorem men_denL {R:List Nat} {σ σ':Names} (hσ:∀i,i∉R→σ' i=σ i):∀(l:List SV),menL R l=false→denL σ' l=denL σ l
 |[],_=>rfl
 | v::l,h=>by
  simp only[menL] at h;split at h
  ·cases h
  ·rename_i hv;simp only[denL];rw[kab hσ v (by simpa using hv),men_denL hσ l h]
end
mutual
theorem kc5 {n:Nat} {σ σ':Names} (hσ:∀i,i<n→σ' i=σ i):∀(v:SV),scV n v=true→den σ' v=den σ v
 |.undef,_=>rfl
 |.val _,_=>rfl
 |.bool _,_=>rfl
 |.lit _ _,_=>rfl
 |.int _ _,_=>rfl
 |.str _,_=>rfl
 |.ptr b i sz j,h=>by simp only[scV,ltB,decide_eq_true_eq] at h;simp only[den];rw[hσ b h]
 |.slice b i sz len cap,h=>by simp only[scV,ltB,decide_eq_true_eq] at h;simp only[den];rw[hσ b h]
 |.yield b,h=>by simp only[scV,ltB,decide_eq_true_eq] at h;simp only[den];rw[hσ b h]
 |.fn _ cs,h=>by simp only[scV] at h;simp only[den];rw[sc_denL hσ cs h]
 |.iface _ v,h=>by simp only[scV] at h;simp only[den];rw[kc5 hσ v h]
 |.agg cs,h=>by simp only[scV] at h;simp only[den];rw[sc_denL hσ cs h]
 |.tup cs,h=>by simp only[scV] at h;simp only[den];rw[sc_denL hσ cs h]
theorem sc_denL {n:Nat} {σ σ':Names} (hσ:∀i,i<n→σ' i=σ i):∀(l:List SV),scL n l=true→denL σ' l=denL σ l
 |[],_=>rfl
 | v::l,h=>by
  simp only[scL] at h;split at h
  ·rename_i hv;simp only[denL];rw[kc5 hσ v hv,sc_denL hσ l h]
  ·cases h
end
theorem kar {R:List Nat} {σ σ':Names} (hσ:∀i,i∉R→σ' i=σ i) {js:Nat→Value}:∀(l:List SV) (i:Nat),(∀k v,l[k]?=some v→js (i+k)=den σ v) →
  denL σ' (ka6 R js i l)=denL σ l
 |[],_,_=>rfl
 | v::l,i,h=>by
  simp only[ka6,denL];rw[kar hσ l (i+1) (fun k u hk=>by rw[←h (k+1) u (by simpa using hk)];congr 1;omega)];congr 1
  split
  ·simpa [den] using h 0 v rfl
  ·rename_i hv;exact kab hσ v (by simpa using hv)
theorem kbB {P:Program} {σ σ':Names} {p:Option (Nat×Nat)} {w w':World} {B:SB} (h:holds P σ p w B)
  (hw:∀q,p=some q→own B=true→w'.heap[q.1]?=w.heap[q.1]?) (hro:∀q,p=some q→own B=false→w'.heap[q.1]?=w.heap[q.1]?)
  (hden:(∀t row,B=.one t row→denL σ' row=denL σ row)∧(∀t sz len (f:Nat→List SV) (i j:Nat) (v:SV),(B=.arr t sz len f∨∃c,B=.bufA t sz len f c)→(f i)[j]?=some v→den σ' v=den σ v) ∧
   (∀sz len (f:Nat→List SV) (i j:Nat) (v:SV),B=.roA sz len f→(f i)[j]?=some v→den σ' v=den σ v)∧(∀st pe t ps a b,B=.loop st pe t ps a b→denL σ' t=denL σ t)∧(∀t sz row c,B=.bufR t sz row c→denL σ' row=denL σ row)):holds P σ' p w' B:=by
 obtain⟨h1,h2,h3,h4,h5⟩:=hden;have hw':∀q,p=some q→w'.heap[q.1]?=w.heap[q.1]?:=fun q hq=>by
  cases hB:own B
  ·exact hro q hq hB
  ·exact hw q hq hB
 have hcell:∀q,p=some q→∀o,w'.cell? ⟨q.1,o,none⟩=w.cell? ⟨q.1,o,none⟩:=fun q hq o=>by simp[World.cell?,hw' q hq]
 cases B
 case free=>trivial
 case one t row=>obtain⟨b,rfl,hh⟩:=h;exact⟨b,rfl,by rw[hw' _ rfl,hh,h1 t row rfl]⟩
 case ints t k l=>obtain⟨b,rfl,hh⟩:=h;exact⟨b,rfl,by rw[hw' _ rfl,hh]⟩
 case buf t k l c=>
  rcases h with h|⟨b,l',rfl,hh,hc⟩
  ·exact .inl h
  ·exact .inr ⟨b,l',rfl,by rw[hw' _ rfl,hh],hc⟩
 case bufR t sz row c=>
  rcases h with h|⟨b,rest,rfl,hh,hc⟩
  ·exact .inl h
  ·exact .inr ⟨b,rest,rfl,by rw[hw' _ rfl,hh,h5 t sz row c rfl],by rw[h5 t sz row c rfl];exact hc⟩
 case arr t sz len f=>
  obtain⟨b,cs,rfl,hh,hc,hf⟩:=h;exact⟨b,cs,rfl,by rw[hw' _ rfl,hh],hc,fun i hi=>⟨(hf i hi).1,fun j v hv=>by rw[h2 t sz len f i j v (.inl rfl) hv];exact(hf i hi).2 j v hv⟩⟩
 case bufA t sz len f c=>
  rcases h with h|⟨b,cs,rfl,hh,hc,hc2,hf⟩
  ·exact .inl h
  ·exact .inr ⟨b,cs,rfl,by rw[hw' _ rfl,hh],hc,hc2,fun i hi=>⟨(hf i hi).1,fun j v hv=>by rw[h2 t sz len f i j v (.inr ⟨c,rfl⟩) hv];exact(hf i hi).2 j v hv⟩⟩
 case ro k l=>
  rcases h with h|⟨b,o,rfl,hh⟩
  ·exact .inl h
  ·exact .inr ⟨b,o,rfl,fun i hi=>by rw[hcell _ rfl];exact hh i hi⟩
 case roA sz len f=>
  rcases h with h|⟨b,o,rfl,hf⟩
  ·exact .inl h
  ·exact .inr ⟨b,o,rfl,fun i hi=>⟨(hf i hi).1,fun j v hv=>by rw[hcell _ rfl,h3 sz len f i j v rfl hv];exact(hf i hi).2 j v hv⟩⟩
 case loop st pe t ps a b=>
  obtain⟨g,fn,ca,cb,d,rfl,ha,hb,hfn,hh⟩:=h;exact⟨g,fn,ca,cb,d,rfl,ha,hb,hfn,by rw[hw' _ rfl,hh,h4 _ _ _ _ _ _ rfl]⟩
 case defd=>obtain⟨b,rfl,hh⟩:=h;exact⟨b,rfl,by rw[hw' _ rfl,hh]⟩
theorem ked {P:Program} {σ:Names} {p:Option (Nat×Nat)} {w w':World} {B:SB} (h:holds P σ p w B) (hw:∀q,p=some q→w'.heap[q.1]?=w.heap[q.1]?):holds P σ p w' B:=
 kbB h (fun q hq _=>hw q hq) (fun q hq _=>hw q hq) ⟨fun _ _ _=>rfl,fun _ _ _ _ _ _ _ _ _=>rfl,fun _ _ _ _ _ _ _ _=>rfl,fun _ _ _ _ _ _ _=>rfl,fun _ _ _ _ _=>rfl⟩

theorem Step.refl (σ:Names) (s:SS) (w:World):Step σ s w σ s w:=
 ⟨Nat.le_refl _,rfl,rfl,rfl,fun _ _ _=>rfl,Nat.le_refl _,fun _ _ _=>rfl,fun _ h=>h,fun i B p h1 h2 h3 _=>⟨i,B,p,h1,h2,h3,rfl⟩,rfl⟩
theorem Step.trans {σ σ' σ'':Names} {s s' s'':SS} {w w' w'':World} (h:Step σ s w σ' s' w') (k:Step σ' s' w' σ'' s'' w''):Step σ s w σ'' s'' w'' where
 size:=Nat.le_trans h.size k.size
 os:=k.os.trans h.os
 tape:=k.tape.trans h.tape
 output:=k.output.trans h.output
 far b hb hf:=(k.far b (Nat.lt_of_lt_of_le hb h.size) (fun i B p hi hB hp e=>by
  obtain⟨j,C,q,hj,hC,hq,he⟩:=h.own i B p hi hB hp (by omega);exact hf j C q hj hC hq (by omega))).trans (h.far b hb hf)
 len:=Nat.le_trans h.len k.len
 names i hi hr:=(k.names i (Nat.lt_of_lt_of_le hi h.len) hr).trans (h.names i hi (fun h'=>hr (k.red i h')))
 red i hi:=k.red i (h.red i hi)
 own i B p hi hB hp hlt:=by
  obtain⟨j,C,q,hj,hC,hq,he⟩:=k.own i B p hi hB hp (Nat.lt_of_lt_of_le hlt h.size);obtain⟨j',C',q',hj',hC',hq',he'⟩:=h.own j C q hj hC hq (by omega);exact⟨j',C',q',hj',hC',hq',he'.trans he⟩
 rd:=k.rd.trans h.rd

theorem Ok.update {P:Program} {σ:Names} {s:SS} {w w':World} {b g:Nat} {B B':SB} (hok:Ok P σ s w) (hB:s.h[b]?=some B) (hB1:own B=true) (hσ:σ b=some (g,0))
  (hB2:own B'=true) (hd:B=.defd→B'=.defd) (hlp:jh B=true→jh B'=true) (hw:∀k,k≠g→w'.heap[k]?=w.heap[k]?) (hsz:w'.heap.size=w.heap.size) (hos:w'.os=w.os) (htp:w'.tape=w.tape) (hou:w'.output=w.output)
  (hh:holds P σ (some (g,0)) w' B') :
  Ok P σ { s with h:=s.h.set b B' } w'∧Step σ s w σ { s with h:=s.h.set b B' } w':=by
 suffices hz:Ok0 P σ { s with h:=s.h.set b B' } w'∧Step σ s w σ { s with h:=s.h.set b B' } w' from⟨⟨hz.1,hok.cold.step hz.2 rfl⟩,hz.2⟩
 have hbl:b<s.h.length:=(List.getElem?_eq_some_iff.1 hB).1;have hget:∀i,(s.h.set b B')[i]?=if b=i then some B' else s.h[i]?:=fun i=>by
  rw[List.getElem?_set];by_cases hi:b=i<;>simp[hi];subst hi;exact hbl
 have hown:∀i C,(s.h.set b B')[i]?=some C→∃C0,s.h[i]?=some C0∧own C0=own C:=fun i C hC=>by
  rw[hget] at hC;split at hC
  ·rename_i hi;subst hi;cases hC;exact⟨B,hB,by rw[hB1,hB2]⟩
  ·exact⟨C,hC,rfl⟩
 refine⟨⟨fun i p hi hp=>?_,fun i j C D p q hij hC hD ho hp hq=>?_,fun i C hC=>?_,fun l hl=>?_,fun l hl=>?_⟩,?_⟩
 ·rw[hsz];exact hok.lt i p (by simpa using hi) hp
 ·obtain⟨C0,hC0,e1⟩:=hown i C hC;obtain⟨D0,hD0,e2⟩:=hown j D hD;exact hok.ne i j C0 D0 p q hij hC0 hD0 (by rw[e1,e2];exact ho) hp hq
 ·rw[hget] at hC;split at hC
  ·rename_i hi;subst hi;cases hC;rw[hσ];exact hh
  ·rename_i hi;refine ked (hok.blk i C hC) (fun q hq=>hw q.1 (fun e=>?_))
   exact hok.ne b i B C (g,0) q hi hB hC (.inl hB1) hσ hq e.symm
 ·obtain⟨h1,h2⟩:=hok.marks l hl;refine⟨h1,?_⟩
  rw[hget];split
  ·rename_i hi;subst hi;rw[hB] at h2;rw[hd (Option.some.inj h2)]
  ·exact h2
 ·obtain⟨h1,C,h2,h3⟩:=hok.rnd l hl;refine⟨h1,?_⟩
  rw[hget];split
  ·rename_i hi;subst hi;rw[hB] at h2;cases h2;exact⟨B',rfl,hlp h3⟩
  ·exact⟨C,h2,h3⟩
 ·refine⟨by omega,hos,htp,hou,fun k hk hf=>hw k (fun e=>?_),by simp,fun _ _ _=>rfl,fun _ h=>h,fun i C p hC ho hp _=>?_,rfl⟩
  ·subst e;exact hf b B (k,0) hB hB1 hσ rfl
  ·obtain⟨C0,hC0,e1⟩:=hown i C hC;exact⟨i,C0,p,hC0,e1.trans ho,hp,rfl⟩

theorem kaL {n:Nat}:∀{l:List SV} {j:Nat} {v:SV},scL n l=true→l[j]?=some v→scV n v=true
 |[],j,v,_,h=>by simp at h
 | u::l,j,v,hs,h=>by
  simp only[scL] at hs;split at hs
  ·rename_i hu;cases j with
   |zero=>simp at h;subst h;exact hu
   |succ j=>simp at h;exact kaL hs h
  ·cases hs
theorem kf8 {n:Nat} {K:Prop}:∀{l:List SB},scH n l K→K∧∀(i:Nat) (B:SB),l[i]?=some B→scB n B True
 |[],h=>⟨h,fun i B hB=>by simp at hB⟩
 | B::l,h=>by
  simp only[scH] at h;have key:scH n l K∧scB n B True:=by
   cases B<;>simp only[scB] at h ⊢<;>first|(split at h<;>first|exact⟨h,by simp[*]⟩|exact h.elim)|exact⟨h.2,h.1,trivial⟩|exact⟨h,trivial⟩
  obtain⟨hK,hr⟩:=kf8 key.1;refine⟨hK,fun i C hC=>?_⟩
  cases i with
  |zero=>simp at hC;subst hC;exact key.2
  |succ i=>simp at hC;exact hr i C hC
theorem kmS {n:Nat} {B:SB} (h:scB n B True) {σ σ':Names} (hσ:∀i,i<n→σ' i=σ i) :
  (∀t row,B=.one t row→denL σ' row=denL σ row)∧(∀t sz len (f:Nat→List SV) (i j:Nat) (v:SV),(B=.arr t sz len f∨∃c,B=.bufA t sz len f c)→(f i)[j]?=some v→den σ' v=den σ v) ∧
   (∀sz len (f:Nat→List SV) (i j:Nat) (v:SV),B=.roA sz len f→(f i)[j]?=some v→den σ' v=den σ v)∧(∀st pe t ps a b,B=.loop st pe t ps a b→denL σ' t=denL σ t)∧(∀t sz row c,B=.bufR t sz row c→denL σ' row=denL σ row):=by
 refine⟨fun t row e=>?_,fun t sz len f i j v e hv=>?_,fun sz len f i j v e hv=>?_,fun st pe t ps a b e=>?_,fun t sz row c e=>?_⟩
 ·subst e;simp only[scB] at h
  split at h
  ·exact sc_denL hσ row (by assumption)
  ·exact h.elim
 ·rcases e with rfl|⟨c,rfl⟩<;>simp only[scB] at h<;>exact kc5 hσ v (kaL (h.1 i) hv)
 all_goals subst e;simp only[scB] at h
 ·exact kc5 hσ v (kaL (h.1 i) hv)
 ·split at h
  ·exact sc_denL hσ t (by assumption)
  ·exact h.elim
 ·split at h
  ·exact sc_denL hσ row (by assumption)
  ·exact h.elim
def more (σ:Names) (n:Nat) (p:Option (Nat×Nat)):Names:=fun i=>if i=n then p else σ i
theorem jy {σ:Names} {n:Nat} {p:Option (Nat×Nat)} {i:Nat} (h:i<n):more σ n p i=σ i:=by unfold more;rw[if_neg (by omega)]
theorem qL {σ:Names} {n:Nat} {p:Option (Nat×Nat)}:more σ n p n=p:=by unfold more;rw[if_pos rfl]
structure Grew (w w':World):Prop where
 size:w.heap.size≤w'.heap.size
 os:w'.os=w.os
 tape:w'.tape=w.tape
 output:w'.output=w.output
 old:∀k,k<w.heap.size→w'.heap[k]?=w.heap[k]?
theorem Grew.alloc (w:World) (o:Obj):Grew w (w.alloc o):=
 ⟨by simp,rfl,rfl,rfl,fun k hk=>by simp only[World.alloc];rw[Array.getElem?_push];rw[if_neg (by omega)]⟩
theorem Ok.new {P:Program} {σ:Names} {s:SS} {w w':World} {B:SB} {p:Option (Nat×Nat)} (hok:Ok P σ s w) (hsc:scS s True) (hg:Grew w w')
  (hp:∀q,p=some q→w.heap.size≤q.1∧q.1<w'.heap.size) (hh:holds P (more σ s.h.length p) p w' B) :
  Ok P (more σ s.h.length p) (alloc B s) w'∧Step σ s w (more σ s.h.length p) (alloc B s) w'∧act (more σ s.h.length p) (alloc B s)=act σ s:=by
 suffices hz:Ok0 P (more σ s.h.length p) (alloc B s) w'∧Step σ s w (more σ s.h.length p) (alloc B s) w'∧act (more σ s.h.length p) (alloc B s)=act σ s from⟨⟨hz.1,hok.cold.step hz.2.1 rfl⟩,hz.2⟩
 unfold scS at hsc;split at hsc
 rotate_left
 ·exact hsc.elim
 rename_i hst;obtain⟨_,hsh⟩:=kf8 hsc;have hσ:∀i,i<s.h.length→more σ s.h.length p i=σ i:=fun i hi=>jy hi
 have hget:∀i C,(s.h++[B])[i]?=some C→(i<s.h.length∧s.h[i]?=some C)∨(i=s.h.length∧C=B):=fun i C hC=>by
  rcases Nat.lt_trichotomy i s.h.length with h|h|h
  ·rw[List.getElem?_append_left h] at hC;exact .inl ⟨h,hC⟩
  ·subst h;simp at hC;exact .inr ⟨rfl,hC.symm⟩
  ·rw[List.getElem?_append_right (by omega)] at hC;rw[List.getElem?_eq_none (by simp;omega)] at hC;cases hC
 have hmarks:∀l,l∈s.d→l<s.h.length:=fun l hl=>(List.getElem?_eq_some_iff.1 (hok.marks l hl).2).1
 refine⟨⟨fun i q hi hq=>?_,fun i j C D q r hij hC hD ho hq hr=>?_,fun i C hC=>?_,fun l hl=>?_,fun l hl=>?_⟩,?_,?_⟩
 ·simp only[alloc,List.length_append,List.length_cons,List.length_nil] at hi;by_cases h:i<s.h.length
  ·rw[hσ i h] at hq;exact Nat.lt_of_lt_of_le (hok.lt i q h hq) hg.size
  ·obtain rfl:i=s.h.length:=by omega
   rw[qL] at hq;exact(hp q hq).2
 ·rcases hget i C hC with⟨hi,hC'⟩|⟨hi,rfl⟩<;>rcases hget j D hD with⟨hj,hD'⟩|⟨hj,rfl⟩
  ·rw[hσ i hi] at hq;rw[hσ j hj] at hr;exact hok.ne i j C D q r hij hC' hD' ho hq hr
  ·subst hj;rw[hσ i hi] at hq;rw[qL] at hr
   have h1:=hok.lt i q hi hq;have h2:=(hp r hr).1;omega
  ·subst hi;rw[hσ j hj] at hr;rw[qL] at hq
   have h1:=hok.lt j r hj hr;have h2:=(hp q hq).1;omega
  ·omega
 ·rcases hget i C hC with⟨hi,hC'⟩|⟨hi,rfl⟩
  ·rw[hσ i hi];have hold:∀q,σ i=some q→w'.heap[q.1]?=w.heap[q.1]?:=fun q hq=>hg.old q.1 (hok.lt i q hi hq)
   exact kbB (hok.blk i C hC') (fun q hq _=>hold q hq) (fun q hq _=>hold q hq) (kmS (hsh i C hC') hσ)
  ·subst hi;rw[qL];exact hh
 ·obtain⟨h1,h2⟩:=hok.marks l hl;exact⟨h1,by simp only[alloc];rw[List.getElem?_append_left (hmarks l hl)];exact h2⟩
 ·obtain⟨h1,C,h2,h3⟩:=hok.rnd l hl;exact⟨h1,C,by simp only[alloc];rw[List.getElem?_append_left (List.getElem?_eq_some_iff.1 h2).1];exact h2,h3⟩
 ·refine⟨hg.size,hg.os,hg.tape,hg.output,fun b hb _=>hg.old b hb,by simp[alloc],fun i hi _=>hσ i hi,fun _ h=>h,fun i C q hC ho hq hlt=>?_,rfl⟩
  rcases hget i C hC with⟨hi,hC'⟩|⟨hi,rfl⟩
  ·rw[hσ i hi] at hq;exact⟨i,C,q,hC',ho,hq,rfl⟩
  ·subst hi;rw[qL] at hq;have:=(hp q hq).1;omega
 ·unfold act;simp only[alloc];rw[sc_denL hσ s.t hst];congr 1
  refine congrArg (·++s.x) (List.map_congr_left ?_)
  intro l hl;unfold mark;rw[hσ l (hmarks l hl)]

theorem kee {R:List Nat} {js:Nat→Nat→Value}:∀(l:List SB) (i k:Nat),(ka7 R js k l)[i]?=(l[i]?).map (kfX R (js (k+i+1)))
 |[],i,k=>by simp[ka7]
 |B::l,i,k=>by
  cases i with
  |zero=>simp[ka7]
  |succ i=>simp only[ka7,List.getElem?_cons_succ];rw[kee l i (k+1)];congr 3;omega
theorem kcw {R:List Nat} {js:Nat→Value} (B:SB):own (kfX R js B)=own B:=by cases B<;>rfl
theorem qM {R:List Nat} {K:Prop}:∀{l:List SB},kcp R l K→K∧∀(i:Nat) (B:SB),l[i]?=some B→kd0 R B True
 |[],h=>⟨h,fun i B hB=>by simp at hB⟩
 | B::l,h=>by
  simp only[kcp] at h;have key:kcp R l K∧kd0 R B True:=by
   cases B<;>simp only[kd0] at h ⊢<;>first|exact⟨h.2,h.1,trivial⟩|exact⟨h,trivial⟩
  obtain⟨hK,hr⟩:=qM key.1;refine⟨hK,fun i C hC=>?_⟩
  cases i with
  |zero=>simp at hC;subst hC;exact key.2
  |succ i=>simp at hC;exact hr i C hC
theorem qN {R:List Nat}:∀{l:List SV} {j:Nat} {v:SV},menL R l=false→l[j]?=some v→men R v=false
 |[],j,v,_,h=>by simp at h
 | u::l,j,v,hs,h=>by
  simp only[menL] at hs;split at hs
  ·cases hs
  ·rename_i hu;cases j with
   |zero=>simp at h;subst h;simpa using hu
   |succ j=>simp at h;exact qN hs h
def k9 (σ:Names) (s:SS):Nat→Nat→Value
 |0,i=>den σ (s.t.getD i .undef)
 |m+1,i=>match s.h[m]? with
  |some (.one _ row)=>den σ (row.getD i .undef)
  |some (.loop _ _ t _ _ _)=>den σ (t.getD i .undef)
  |some (.bufR _ _ row _)=>den σ (row.getD i .undef)
  |_=>undef
theorem kef (R:List Nat) (jv:SV→Value) (js:Nat→Value):∀(l:List SV) (i:Nat),(∀k v,l[k]?=some v→js (i+k)=jv v)→kd1 R jv l=ka6 R js i l
 |[],_,_=>rfl
 |v::l,i,h=>by
  simp only[kd1,ka6];rw[kef R jv js l (i+1) (fun k u hk=>by rw[←h (k+1) u (by simpa using hk)];congr 1;omega)];congr 1
  rw[←h 0 v rfl,Nat.add_zero]
theorem kgU (R:List Nat) (σ:Names) (s:SS):∀(l:List SB) (i:Nat),(∀k B,l[k]?=some B→s.h[i+k]?=some B)→kjf R (den σ) l=ka7 R (k9 σ s) i l
 |[],_,_=>rfl
 |B::l,i,h=>by
  simp only[kjf,ka7];rw[kgU R σ s l (i+1) (fun k C hk=>by rw[←h (k+1) C (by simpa using hk)];congr 1;omega)];congr 1
  have hB:s.h[i]?=some B:=by simpa using h 0 B rfl
  cases B<;>simp only[knG,kfX]
  all_goals rw[kef R (den σ) (k9 σ s (i+1)) _ 0 (fun k v hk=>by simp[k9,hB,List.getD,hk])]
theorem keg (b:Nat) (B:SB) (σ:Names) (s:SS):kjg b B (den σ) s=over b B (k9 σ s) s:=by
 unfold kjg over scr;rw[kef [b] (den σ) (k9 σ s 0) s.t 0 (fun k v hk=>by simp[k9,List.getD,hk]),kgU [b] σ s s.h 0 (fun k B hk=>by simpa using hk)]
theorem kba {l:List SV} {i:Nat} {v:SV} (h:l[i]?=some v):l.getD i .undef=v:=by simp[List.getD,h]
theorem Ok.over {P:Program} {σ σ':Names} {s:SS} {w w':World} {b:Nat} {B B':SB} (hok:Ok P σ s w) (hB:s.h[b]?=some B) (hB1:own B=true) (hB2:own B'=true) (hBd:B≠.defd) (hBl:jh B=false)
  (hmen:∀(i:Nat) (C:SB),s.h[i]?=some C→kd0 [b] C True) (hσ:∀i,i≠b→σ' i=σ i) (hb:∀q,σ' b=some q→q.1<w'.heap.size∧(w.heap.size≤q.1∨σ b=some q))
  (hsz:w.heap.size≤w'.heap.size) (hos:w'.os=w.os) (htp:w'.tape=w.tape) (hou:w'.output=w.output)
  (hw:∀k,k<w.heap.size→σ b≠some (k,0)→w'.heap[k]?=w.heap[k]?) (hz:∀q,σ b=some q→q.2=0) (hh:holds P σ' (σ' b) w' B') :
  Ok P σ' (Sx.over b B' (k9 σ s) s) w'∧Step σ s w σ' (Sx.over b B' (k9 σ s) s) w'∧act σ' (Sx.over b B' (k9 σ s) s)=act σ s:=by
 suffices hz:Ok0 P σ' (Sx.over b B' (k9 σ s) s) w'∧Step σ s w σ' (Sx.over b B' (k9 σ s) s) w'∧act σ' (Sx.over b B' (k9 σ s) s)=act σ s from⟨⟨hz.1,hok.cold.step hz.2.1 rfl⟩,hz.2⟩
 have hbl:b<s.h.length:=(List.getElem?_eq_some_iff.1 hB).1;have hlen:(ka7 [b] (k9 σ s) 0 s.h).length=s.h.length:=by
  have:∀(l:List SB) k,(ka7 [b] (k9 σ s) k l).length=l.length:=by
   intro l;induction l with
   |nil=>intro k;rfl
   |cons B l ih=>intro k;simp[ka7,ih]
  exact this _ _
 have hget:∀i,(Sx.over b B' (k9 σ s) s).h[i]?=if b=i then some B' else(s.h[i]?).map (kfX [b] (k9 σ s (i+1))):=fun i=>by
  simp only[Sx.over,scr];rw[List.getElem?_set];by_cases hi:b=i
  ·subst hi;simp[hlen,hbl]
  ·rw[if_neg hi,if_neg hi,kee];simp
 have hnm:∀i,i∉[b]→σ' i=σ i:=fun i hi=>hσ i (by simpa using hi)
 have hown:∀i C,(Sx.over b B' (k9 σ s) s).h[i]?=some C→∃C0,s.h[i]?=some C0∧own C0=own C:=fun i C hC=>by
  rw[hget] at hC;split at hC
  ·rename_i hi;subst hi;cases hC;exact⟨B,hB,by rw[hB1,hB2]⟩
  ·simp only[Option.map_eq_some_iff] at hC;obtain⟨C0,h0,rfl⟩:=hC;exact⟨C0,h0,(kcw C0).symm⟩
 have hmk:∀l,l∈s.d→l≠b:=fun l hl e=>by
  subst e;have:=(hok.marks l hl).2;rw[hB] at this;exact hBd (Option.some.inj this)
 have hsame:∀i C q,i≠b→s.h[i]?=some C→σ i=some q→w'.heap[q.1]?=w.heap[q.1]?:=fun i C q hi hC hq=>by
  have hl:i<s.h.length:=(List.getElem?_eq_some_iff.1 hC).1;refine hw q.1 (hok.lt i q hl hq) (fun e=>?_)
  exact hok.ne b i B C (q.1,0) q (Ne.symm hi) hB hC (.inl hB1) e hq rfl
 refine⟨⟨fun i p hi hp=>?_,fun i j C D p q hij hC hD ho hp hq=>?_,fun i C hC=>?_,fun l hl=>?_,fun l hl=>?_⟩,?_,?_⟩
 ·have hi':i<s.h.length:=by simpa [Sx.over,scr,hlen] using hi
  by_cases h:i=b
  ·subst h;exact(hb p hp).1
  ·rw[hσ i h] at hp;exact Nat.lt_of_lt_of_le (hok.lt i p hi' hp) hsz
 ·obtain⟨C0,hC0,e1⟩:=hown i C hC;obtain⟨D0,hD0,e2⟩:=hown j D hD;have hne:=hok.ne;by_cases hib:i=b
  ·subst hib;rw[hσ j (Ne.symm hij)] at hq;rcases(hb p hp).2 with h|h
   ·have:=hok.lt j q (List.getElem?_eq_some_iff.1 hD0).1 hq;omega
   ·exact hne i j B D0 p q hij hB hD0 (.inl hB1) h hq
  ·by_cases hjb:j=b
   ·subst hjb;rw[hσ i hib] at hp;rcases(hb q hq).2 with h|h
    ·have:=hok.lt i p (List.getElem?_eq_some_iff.1 hC0).1 hp;omega
    ·exact hne i j C0 B p q hij hC0 hB (.inr hB1) hp h
   ·rw[hσ i hib] at hp;rw[hσ j hjb] at hq;exact hne i j C0 D0 p q hij hC0 hD0 (by rw[e1,e2];exact ho) hp hq
 ·rw[hget] at hC;split at hC
  ·rename_i hi;subst hi;cases hC;exact hh
  ·rename_i hi;simp only[Option.map_eq_some_iff] at hC;obtain⟨C0,h0,rfl⟩:=hC;rw[hσ i (Ne.symm hi)];have hb0:=hok.blk i C0 h0;have hs:=fun q hq=>hsame i C0 q (Ne.symm hi) h0 hq
   have hm:=hmen i C0 h0;cases C0
   case one t row=>
    obtain⟨g',hg',hh'⟩:=hb0;refine⟨g',hg',?_⟩
    rw[hs _ hg',hh',kar hnm];intro k v hv;simp only[k9,h0,Nat.zero_add,kba hv]
   case bufR t sz row c=>
    have hden:denL (σ') (ka6 [b] (k9 σ s (i+1)) 0 row)=denL σ row:=kar hnm row 0 (fun k v hv=>by simp only[k9,h0,Nat.zero_add,kba hv]);rcases hb0 with⟨e1,e2,e3⟩|⟨g',rest,hg',hh',hc'⟩
    ·subst e2;exact .inl ⟨e1,rfl,e3⟩
    ·exact .inr ⟨g',rest,hg',by rw[hs _ hg',hh',hden],by rw[hden];exact hc'⟩
   case loop st pe t ps a c=>
    obtain⟨g',fn,ca,cb,d,hg',h1,h2,hfn,hh'⟩:=hb0;refine⟨g',fn,ca,cb,d,hg',h1,h2,hfn,?_⟩
    rw[hs _ hg',hh',kar hnm];intro k v hv;simp only[k9,h0,Nat.zero_add,kba hv]
   all_goals refine kbB hb0 (fun q hq _=>hs q hq) (fun q hq _=>hs q hq) ⟨fun _ _ e=>(by cases e),fun t sz len f i j v e hv=>?_,fun sz len f i j v e hv=>?_,fun _ _ _ _ _ _ e=>(by cases e),fun _ _ _ _ e=>(by cases e)⟩<;>first|(rcases e with e|⟨c,e⟩<;>cases e<;>done)|(cases e;done)|(rcases e with e|⟨c,e⟩<;>cases e;exact kab hnm v (qN (hm.1 _) hv))|(cases e;exact kab hnm v (qN (hm.1 _) hv))
 ·obtain⟨h1,h2⟩:=hok.marks l hl;refine⟨?_,?_⟩
  ·simp only[Sx.over,kfY];split
   ·exact h1
   ·simp;exact⟨hmk l hl,h1⟩
  ·rw[hget,if_neg (Ne.symm (hmk l hl)),h2];rfl
 ·obtain⟨h1,C,h2,h3⟩:=hok.rnd l hl;have hlb:l≠b:=fun e=>by subst e;rw[hB] at h2;cases h2;rw[hBl] at h3;cases h3
  refine⟨?_,kfX [b] (k9 σ s (l+1)) C,?_,?_⟩
  ·simp only[Sx.over,kfY];split
   ·exact h1
   ·simp;exact⟨hlb,h1⟩
  ·rw[hget,if_neg (Ne.symm hlb),h2];rfl
  ·cases C<;>first|exact h3|cases h3
 ·refine⟨hsz,hos,htp,hou,fun k hk hf=>hw k hk (fun e=>hf b B (k,0) hB hB1 e rfl),by simp[Sx.over,scr,hlen],fun i hi hr=>hσ i (fun e=>?_),fun i hi=>?_,fun i C p hC ho hp hlt=>?_,rfl⟩
  ·subst e;apply hr;simp only[Sx.over,kfY];split
   ·rename_i h;rwa [memN_iff] at h
   ·simp
  ·simp only[Sx.over,kfY];split
   ·exact hi
   ·simp[hi]
  ·obtain⟨C0,hC0,e1⟩:=hown i C hC;by_cases hib:i=b
   ·subst hib;rcases(hb p hp).2 with h|h
    ·omega
    ·exact⟨i,B,p,hB,hB1,h,rfl⟩
   ·rw[hσ i hib] at hp;exact⟨i,C0,p,hC0,e1.trans ho,hp,rfl⟩
 ·unfold act;simp only[Sx.over,scr];rw[kar hnm s.t 0 (fun k v hv=>by simp[k9,List.getD,hv])];congr 1
  refine congrArg (·++s.x) (List.map_congr_left ?_)
  intro l hl;unfold mark;rw[hσ l (hmk l hl)]
end Go.Sx
namespace Go.Sx
open Go

def jM (P:Program) (o:Oper) (σ:Names) (s:SS) (w:World) (K:SV→SS→Prop):Prop:=
 ∃v σ' s' w',K v s'∧((execOp (act σ s).eval o).run P w=.ok (.value (den σ' v)) w'∨((execOp (act σ s).eval o).run P w=.ok .skip w'∧v=.undef)) ∧
  Ok P σ' s' w'∧Step σ s w σ' s' w'∧act σ' s'=act σ s

mutual
theorem kmT (n:Nat) (v:Value):scV n (ofV v)=true:=by cases v<;>rfl
end
theorem kmU {n:Nat} {l:List SV} (h:scL n l=true) (i:Nat):scV n (l.getD i .undef)=true:=by
 cases hi:l[i]? with
 |none=>simp[List.getD,hi,scV]
 |some v=>simp[List.getD,hi];exact kaL h hi
theorem klw {s:SS} (h:scS s True):scL s.h.length s.t=true:=by
 unfold scS at h;split at h
 ·assumption
 ·exact h.elim
theorem jp {s:SS} {K:Prop} (h:scS s K):K∧scS s True:=by
 unfold scS at h ⊢
 split at h
 ·rename_i hl;rw[if_pos hl];have key:∀(l:List SB),scH s.h.length l K→K∧scH s.h.length l True:=by
   intro l;induction l with
   |nil=>intro h;exact⟨h,trivial⟩
   | cons B l ih=>
    intro h;simp only[scH] at h ⊢
    cases B<;>simp only[scB] at h ⊢<;>first
     |(split at h<;>first|(rename_i hc;rw[if_pos hc];exact ih h)|exact h.elim)
     |(exact⟨(ih h.2).1,h.1,(ih h.2).2⟩)
     |exact ih h
  exact key s.h h
 ·exact h.elim
theorem knJ {s:SS} {x:Operand} {y:XO} (h:cO x=some y) (hs:scS s True):scV s.h.length (ev s y)=true:=by
 cases x<;>simp only[cO,Option.some.injEq,reduceCtorEq] at h<;>subst h
 ·exact kmU (klw hs) _
 ·exact kmT _ _
 ·rfl
theorem kke {n:Nat} {v:SV} {K:List SV→Prop} (h:kal v K) (hv:scV n v=true) (σ:Names):∃cs,K cs∧(den σ v).cells=(denL σ cs).toArray∧scL n cs=true:=by
 cases v<;>simp only[kal] at h
 case val u=>
  split at h
  ·exact⟨_,h,rfl,rfl⟩
  ·exact⟨_,h,rfl,rfl⟩
  ·exact⟨_,h,rfl,rfl⟩
  ·exact⟨_,h,rfl,rfl⟩
  ·exact⟨_,h,rfl,rfl⟩
  ·exact h.elim
 case agg cs=>exact⟨_,h,by simp[den,Value.cells],by simpa [scV] using hv⟩
 all_goals exact⟨_,h,by simp[den,denL,Value.cells],by simp[scL,hv]⟩
theorem kdu {k:IntKind} (σ:Names):∀{cs:List SV} {K:List Int→Prop},q8 k cs K→∃ns,K ns∧denL σ cs=ns.map (Value.int k)
 |[],K,h=>⟨[],h,rfl⟩
 |v::cs,K,h=>by
  simp only[q8] at h;obtain⟨n,hn,h⟩:=jz h (σ:=σ);obtain⟨ns,hK,hns⟩:=kdu σ h;exact⟨_,hK,by simp[denL,hn,hns]⟩
section
variable {P:Program} {o:Oper} {σ:Names} {s:SS} {w:World} {K:SV→SS→Prop}
theorem qO (σ:Names) (n g sz:Nat) (j:Nat):den (more σ n (some (g,0))) (.ptr n .z sz j)=.pointer (some ⟨g,j,none⟩):=by
 simp[den,more,ixN]
theorem qD {B:SB} {cells:Array Value} {t:TypeId} {v:SV} {res:Value} (hok:Ok P σ s w) (hK:K v (alloc B s)) (hsc:scS s True)
  (hrun:(execOp (act σ s).eval o).run P w=.ok (.value res) (w.alloc (.cells cells t)))
  (hres:den (more σ s.h.length (some (w.heap.size,0))) v=res)
  (hh:holds P (more σ s.h.length (some (w.heap.size,0))) (some (w.heap.size,0)) (w.alloc (.cells cells t)) B):jM P o σ s w K:=by
 obtain⟨h1,h2,h3⟩:=hok.new hsc (Grew.alloc w (.cells cells t)) (p:=some (w.heap.size,0)) (B:=B) (fun q hq=>by cases hq;simp) hh;exact⟨v,_,_,_,hK,.inl (by rw[hrun,hres]),h1,h2,h3⟩
theorem jb (w:World) (ob:Obj):(w.alloc ob).heap[w.heap.size]?=some ob:=World.alloc_heap_new w ob
theorem kmV {X:XE→SS→Prop} {t:TypeId} {x:Operand} {y:XO} (hok:Ok P σ s w) (ho:o.op=.box t x) (hx:cO x=some y) (ik:Option IntKind)
  (h:kL std P (.box t ik y) s K X):jM P o σ s w K:=by
 simp only[kL] at h;have hrun:∀cs:Array Value,(den σ (ev s y)).cells=cs→(execOp (act σ s).eval o).run P w=.ok (.value (.pointer (some ⟨w.heap.size,0,none⟩))) (w.alloc (.cells cs t)):=by
  intro cs hcs;simp[execOp,ho,ke hx,Instr.box,newVar,newRow,hcs]
 cases ik with
 |none=>
  obtain⟨cs0,h0,_⟩:=kaI h σ;obtain⟨_,hsc⟩:=jp h0;obtain⟨cs,h,hcs,hscs⟩:=kke h (knJ hx hsc) σ;obtain⟨h,_⟩:=jp h;refine qD hok h hsc (hrun _ hcs) (qO σ _ _ _ _) ⟨w.heap.size,rfl,?_⟩
  rw[jb,sc_denL (fun i hi=>jy hi) cs hscs]
 |some k=>
  obtain⟨cs,h,hcs⟩:=kaI h σ;obtain⟨ns,h,hns⟩:=kdu σ h;obtain⟨h,hsc⟩:=jp h;refine qD hok h hsc (hrun _ hcs) (qO σ _ _ _ _) ⟨w.heap.size,rfl,?_⟩
  rw[jb,hns]
theorem qh {t:TypeId} {z:List Value} (hz:jn P t=some z):∃v,(∀w,(zeroValue t).run P w=.ok v w)∧v.cells=z.toArray:=by
 obtain⟨v,h1,h2⟩:=kd8 hz default;refine⟨v,fun w=>?_,h2⟩
 unfold jn at hz;cases hi:P.info? t with
 |none=>simp[hi] at hz
 |some i=>
  cases hz0:i.zero with
  |none=>simp[hi,hz0] at hz
  |some v0=>simp[zeroValue,typeInfo,hi,hz0] at h1 ⊢;rw[h1]
theorem keh {k:IntKind}:∀{l:List Value},kdU k l=true→l=(List.replicate l.length 0).map (Value.int k)
 |[],_=>rfl
 | v::l,h=>by
  unfold kdU at h;split at h
  ·rename_i heq;cases heq
  ·rename_i k' l' heq;cases heq
   simp only[Bool.and_eq_true,jg] at h;obtain⟨rfl,h⟩:=h;simp only[List.length_cons,List.replicate_succ,List.map_cons];rw[←keh h]
  ·cases h
theorem kgV {t:TypeId} {k:IntKind} {n:Nat} (h:kcs (jn P t) k n=true):jn P t=some ((List.replicate n 0).map (Value.int k)):=by
 unfold kcs at h;split at h
 ·rename_i l hl;simp only[Bool.and_eq_true,beq_iff_eq] at h;rw[hl,keh h.2,h.1]
 ·cases h
theorem klx {X:XE→SS→Prop} {t:TypeId} {k:IntKind} {n:Nat} (hok:Ok P σ s w) (ho:o.op=.alloc t) (hz:kcs (jn P t) k n=true)
  (h:kL std P (.newI t k n) s K X):jM P o σ s w K:=by
 simp only[kL] at h;obtain⟨h,hsc⟩:=jp h;obtain⟨v,hv,hc⟩:=qh (kgV hz);refine qD (cells:=v.cells) (t:=t) hok h hsc ?_ (qO σ _ _ _ _) ⟨w.heap.size,rfl,?_⟩
 ·simp[execOp,ho,Instr.alloc,hv,newVar,newRow]
 ·rw[jb,hc];rfl
theorem kgW (σ:Names) (z:List Value):denL σ (z.map ofV)=z:=by
 rw[kq,List.map_map];conv=>rhs;rw[←List.map_id z]
 apply List.map_congr_left
 intro v _;simp[kbz]
theorem kly {X:XE→SS→Prop} {t:TypeId} {z:List Value} (hok:Ok P σ s w) (ho:o.op=.alloc t) (hz:jn P t=some z)
  (h:kL std P (.newR t (z.map ofV)) s K X):jM P o σ s w K:=by
 simp only[kL] at h;obtain⟨h,hsc⟩:=jp h;obtain⟨v,hv,hc⟩:=qh hz;refine qD (cells:=v.cells) (t:=t) hok h hsc ?_ (qO σ _ _ _ _) ⟨w.heap.size,rfl,?_⟩
 ·simp[execOp,ho,Instr.alloc,hv,newVar,newRow]
 ·rw[jb,hc,kgW]
theorem kfc:∀{l l':List Value},kc3 l l'=true→l=l'
 |[],[],_=>rfl
 |.int k n::l,.int k' n'::l',h=>by
  simp only[kc3,Bool.and_eq_true,jg,beq_iff_eq] at h;obtain⟨⟨rfl,rfl⟩,h⟩:=h;rw[kfc h]
 |[],_::_,h=>by simp[kc3] at h
 |.int _ _::_,[],h=>by simp[kc3] at h
theorem flat_get {z:List Value}:∀{n m k:Nat},m<n→k<z.length→(List.replicate n z).flatten[m*z.length+k]?=z[k]?
 |0,m,k,h,_=>by omega
 |n+1,0,k,_,hk=>by
  rw[List.replicate_succ,List.flatten_cons,Nat.zero_mul,Nat.zero_add,List.getElem?_append_left hk]
 |n+1,m+1,k,h,hk=>by
  rw[List.replicate_succ,List.flatten_cons,List.getElem?_append_right (by rw[Nat.add_mul];omega),show(m+1)*z.length+k-z.length=m*z.length+k by rw[Nat.add_mul];omega];exact flat_get (by omega) hk
theorem klz {X:XE→SS→Prop} {t:TypeId} {n sz:Nat} {z:List Value} (hok:Ok P σ s w) (ho:o.op=.alloc t) (hz:knX P t=some (n,sz,z))
  (h:kL std P (.newA t sz n (z.map ofV)) s K X):jM P o σ s w K:=by
 simp only[kL] at h;obtain⟨h,hsc⟩:=jp h;unfold knX at hz;split at hz
 rotate_left
 ·cases hz
 rename_i m e hu;split at hz
 rotate_left
 ·cases hz
 rename_i z0 zt h1 h2;split at hz
 rotate_left
 ·cases hz
 rename_i hc;simp only[Option.some.injEq,Prod.mk.injEq] at hz;obtain⟨rfl,rfl,rfl⟩:=hz;simp only[Bool.and_eq_true] at hc;have he:=kfc hc.2;obtain⟨v,hv,hcz⟩:=qh h2;refine qD (cells:=v.cells) (t:=t) hok h hsc ?_ (qO σ _ _ _ _) ⟨w.heap.size,_,rfl,jb _ _,?_,fun i hi=>⟨by simp,fun k u hk=>?_⟩⟩
 ·simp[execOp,ho,Instr.alloc,hv,newVar,newRow]
 ·rw[hcz,he];simp
 ·rw[List.getElem?_map] at hk;have hkl:k<z0.length:=by
   cases hzk:z0[k]? with
   |none=>rw[hzk] at hk;cases hk
   |some y=>exact(List.getElem?_eq_some_iff.1 hzk).1
  rw[hcz,he];rw[List.getElem?_toArray,flat_get hi hkl];cases hzk:z0[k]? with
  |none=>rw[hzk] at hk;cases hk
  |some y=>
   rw[hzk] at hk;simp only[Option.map_some,Option.some.injEq] at hk;subst hk;simp[kbz]
theorem kdv {k:IntKind}:∀{parts:List (Nat×Operand)} {ps:List Part} {l:List Int} {K:List Int→Prop},
  jT (fun i=>some (i,1)) parts=some ps→kdr s k ps l K →
  ∃l',K l'∧Instr.fill (fun i=>some (i,1)) (l.map (Value.int k)).toArray (parts.map fun(i,x)=>(i,(act σ s).eval x))=some (l'.map (Value.int k)).toArray∧l'.length=l.length
 |[],ps,l,K,hp,h=>by
  simp only[jT,Option.some.injEq] at hp;subst hp
  exact⟨l,h,by simp[Instr.fill],rfl⟩
 |(i,x)::parts,ps,l,K,hp,h=>by
  simp only[jT] at hp;split at hp
  rotate_left
  ·cases hp
  rename_i off sz y ps' hpl hx hl;simp only[Option.some.injEq,Prod.mk.injEq] at hp hpl;subst hp
  obtain⟨rfl,rfl⟩:=hpl;simp only[kdr] at h;obtain⟨n,hn,h⟩:=jz h (σ:=σ);split at h
  rotate_left
  ·exact h.elim
  rename_i hlt;obtain⟨l',hK,hf,hlen⟩:=kdv hl h;refine⟨l',hK,?_,by rw[hlen];simp⟩
  simp only[List.map_cons,Instr.fill,ke hx,hn];rw[if_neg (by simp[Value.cells];omega)];rw[←hf];congr 1
  simp[Value.cells,List.map_set]
theorem kcx {e:TypeId} {k:IntKind} (h:kcr P e k=true):jn P e=some [.int k 0]:=by
 unfold kcr at h;split at h
 ·rename_i k' hz;rw[jg] at h;subst h;exact hz
 ·cases h
theorem kfd (k:IntKind) (n:Nat):((Array.range (n*1)).map fun i=>(#[Value.int k 0]:Array Value)[i % (#[Value.int k 0]:Array Value).size]!)=((List.replicate n 0).map (Value.int k)).toArray:=by
 apply Array.ext
 ·simp
 ·intro i h1 h2;simp[Nat.mod_one]
theorem kgX {X:XE→SS→Prop} {t e:TypeId} {k:IntKind} {n:Nat} {parts:Array (Nat×Operand)} {ps:List Part} (hok:Ok P σ s w) (ho:o.op=.buildSlice t n parts) (ht:P.underlying t=some (.slice e))
  (hs:kG P e=some 1) (hz:kcr P e k=true) (hn:n*1≤16777216) (hp:jT (fun i=>some (i,1)) parts.toList=some ps)
  (h:kL std P (.bsliceI e k n ps) s K X):jM P o σ s w K:=by
 simp only[kL] at h;obtain⟨l,h,hf,hlen⟩:=kdv (σ:=σ) hp h;obtain⟨h,hsc⟩:=jp h;obtain⟨v,hv,hc⟩:=qh (kcx hz);have hf':Instr.fill (fun i=>some (i*1,1)) ((List.replicate n 0).map (Value.int k)).toArray (parts.map fun x=>(x.1,(act σ s).eval x.2)).toList=some (l.map (Value.int k)).toArray:=by
  rw[←hf];congr 1
  ·funext i;simp
  ·simp
 refine qD (cells:=(l.map (Value.int k)).toArray) (t:=e) hok h hsc ?_ (res:=.slice (some ⟨w.heap.size,0,none⟩) n n) (by simp[den,more,ixN]) ⟨w.heap.size,rfl,jb _ _⟩
 simp only[execOp,ho,Instr.buildSlice,Sem.run_bind,kM ht,Result.andThen_ok,kz hs];rw[if_neg (by omega)];by_cases hn0:n=0
 ·subst hn0;have hl:l=[]:=List.eq_nil_of_length_eq_zero (by simpa using hlen);subst hl;simp at hf'
  simp[hf',newRow,show Array.range 0=#[] from rfl]
 ·rw[if_neg (by omega)];simp only[Sem.run_bind,Sem.run_pure,Result.andThen_ok,hv,hc];have hz2:=kfd k n;simp only[Nat.mul_one] at hz2 hf' ⊢
  rw[show([Value.int k 0]:List Value).toArray=#[Value.int k 0] from rfl,hz2,hf'];simp[newRow]
theorem kjm {α:Type} (z:List α):∀(n i:Nat),i<n*z.length→(List.replicate n z).flatten[i]?=z[i % z.length]?
 |0,i,h=>by omega
 | n+1,i,h=>by
  rw[List.replicate_succ,List.flatten_cons];by_cases hi:i<z.length
  ·rw[List.getElem?_append_left hi,Nat.mod_eq_of_lt hi]
  ·rw[List.getElem?_append_right (by omega),kjm z n (i-z.length) (by rw[Nat.add_mul] at h;omega)];congr 1
   rw[←Nat.mod_eq_sub_mod (by omega)]
theorem kdV {α:Type} (z:List α):∀n:Nat,(List.replicate n z).flatten.length=n*z.length
 |0=>by simp
 |n+1=>by rw[List.replicate_succ,List.flatten_cons,List.length_append,kdV z n,Nat.add_mul];omega
theorem kkf (z:List Value) (n:Nat):((Array.range (n*z.length)).map fun i=>z.toArray[i % z.toArray.size]!)=(List.replicate n z).flatten.toArray:=by
 apply Array.ext
 ·simp[kdV]
 ·intro i h1 h2;have hi:i<n*z.length:=by simpa using h1
  have hz:0<z.length:=by
   rcases Nat.eq_zero_or_pos z.length with h|h
   ·rw[h] at hi;omega
   ·exact h
  have hm:i % z.length<z.length:=Nat.mod_lt _ hz;have h:=kjm z n i hi;rw[List.getElem?_eq_getElem (by simpa using h2),List.getElem?_eq_getElem hm,Option.some.injEq] at h;simp[h,hm]
theorem kei (σ:Names) (z:List Value):∀n:Nat,denL σ (kf0 (z.map ofV) n)=(List.replicate n z).flatten
 |0=>rfl
 |n+1=>by
  rw[List.replicate_succ,List.flatten_cons,←kei σ z n];simp only[kf0,kq,List.map_append];congr 1
  have:=kgW σ z
  rwa [kq] at this
theorem kgY {X:XE→SS→Prop} {t e:TypeId} {z:List Value} {n:Nat} {parts:Array (Nat×Operand)} {ps:List Part} (hok:Ok P σ s w) (ho:o.op=.buildSlice t n parts) (ht:P.underlying t=some (.slice e))
  (hs:kG P e=some z.length) (hz:jn P e=some z) (hn:n*z.length≤16777216) (hp:jT (fun i=>some (i*z.length,z.length)) parts.toList=some ps)
  (h:kL std P (.bsliceR e z.length n (z.map ofV) ps) s K X):jM P o σ s w K:=by
 simp only[kL] at h;obtain⟨row,h,hf,hlen⟩:=q9 (σ:=σ) hp h;split at h
 rotate_left
 ·exact h.elim
 rename_i hrow;obtain⟨h,hsc⟩:=jp h;obtain⟨v,hv,hc⟩:=qh hz;rw[kei] at hf;have hl:(denL σ row).length=n*z.length:=by
  rw[kq,List.length_map,hlen];have:=congrArg List.length (kei σ z n);rw[kq,List.length_map,kdV] at this;exact this
 have hden:denL (more σ s.h.length (some (w.heap.size,0))) row=denL σ row:=sc_denL (fun i hi=>jy hi) row hrow;refine qD (cells:=(denL σ row).toArray) (t:=e) hok h hsc ?_ (res:=.slice (some ⟨w.heap.size,0,none⟩) n n) (by simp[den,more,ixN]) (.inr ⟨w.heap.size,[],rfl,?_,?_⟩)
 ·simp only[execOp,ho,Instr.buildSlice,Sem.run_bind,kM ht,Result.andThen_ok,kz hs];rw[if_neg (by omega)];have hf':Instr.fill (fun i=>some (i*z.length,z.length)) (List.replicate n z).flatten.toArray (parts.map fun x=>(x.1,(act σ s).eval x.2)).toList=some (denL σ row).toArray:=by
   rw[←hf];congr 1;simp
  by_cases hn0:n*z.length=0
  ·have hnil:(List.replicate n z).flatten=[]:=List.eq_nil_of_length_eq_zero (by rw[kdV];exact hn0);rw[hnil] at hf';simp at hf'
   simp[hn0,hf',newRow,show Array.range 0=#[] from rfl]
  ·rw[if_neg hn0];simp only[Sem.run_bind,Sem.run_pure,Result.andThen_ok,hv,hc];rw[kkf,hf'];simp[newRow]
 ·rw[jb,hden];simp
 ·rw[hden];simp[hl]
theorem kkg {X:XE→SS→Prop} {t e:TypeId} {k:IntKind} {l c:Operand} {l' c':XO} {i:TypeInfo} (hok:Ok P σ s w) (ho:o.op=.makeSlice t l c) (ht:P.underlying t=some (.slice e)) (hi:P.info? e=some i)
  (hsz:i.size=1) (hz:kcr P e k=true) (hby:1≤i.bytes) (hl:cO l=some l') (hc:cO c=some c')
  (h:kL std P (.mkslI e k i.bytes l' c') s K X):jM P o σ s w K:=by
 simp only[kL] at h;have hx:∃a b,den σ (ev s l')=.int .i64 a∧den σ (ev s c')=.int .i64 b∧(qz a∧qz b∧InC a (std.toN b)∧kc0 b i.bytes ∧
   scS s (K (.slice s.h.length .z 1 (std.toN a) (std.toN b)) (alloc (.ints e k (std.rep (std.toN b) 0)) s))):=by
  unfold kiv at h;split at h
  all_goals first|exact h.elim|(rename_i h1 h2;exact⟨_,_,by rw[h1];rfl,by rw[h2];rfl,h⟩)
 obtain⟨a,b,ha,hb,h0,hb0,h1,h2,h⟩:=hx;obtain⟨h,hsc⟩:=jp h;obtain⟨v,hv,hcz⟩:=qh (kcx hz);have h0:=h0.out;have h1:=h1.out;have h2:=h2.out;have hb0:=hb0.out;have hb63:b≤281474976710656:=by
  have h3:(1:Int)≤(i.bytes:Int):=by omega
  have h4:b*1≤b*(i.bytes:Int):=Int.mul_le_mul_of_nonneg_left h3 hb0;omega
 have hab:a≤b:=by simp only[std] at h1;omega
 have wr:∀x:Int,0≤x→x≤281474976710656→IntKind.i64.wrap x=x:=by
  intro x h1 h2;simp[IntKind.wrap,IntKind.bits,IntKind.signed]
  omega
 have ea:=wr a h0 (by omega);have eb:=wr b hb0 hb63;have hsz':kG P e=some 1:=by simp[kG,hi,hsz]
 refine qD (cells:=((List.replicate b.toNat 0).map (Value.int k)).toArray) (t:=e) hok h hsc ?_ (res:=.slice (some ⟨w.heap.size,0,none⟩) a.toNat b.toNat) (by simp[den,more,ixN,std]) ⟨w.heap.size,rfl,jb _ _⟩
 have hz3:=kfd k b.toNat;have hti:∀w,(typeInfo e).run P w=.ok i w:=fun w=>by simp[typeInfo,hi]
 have hroom:∀n w,(askRoom n).run P w=.ok () w:=by
  intro n w;unfold askRoom;split
  ·rfl
  ·rfl
 have hcond:(decide (b<0)||decide ((i.bytes:Int)*b>2^48)||decide (a<0)||decide (a>b))=false:=by
  have:(i.bytes:Int)*b≤2^48:=by rw[Int.mul_comm];simpa using h2
  simp
  omega
 simp only[execOp,ho,Instr.makeSlice,Sem.run_bind,kM ht,Result.andThen_ok,ke hl,ke hc,ha,hb,asInt,asIntOf,Sem.run_pure,hti,ea,eb];have h5:¬(decide (b<0)||decide ((i.bytes:Int)*b>2^48)||decide (a<0)||decide (a>b))=true:=by rw[hcond];simp
 simp only[gt_iff_lt] at h5 ⊢
 rw[if_neg h5];simp only[Sem.run_bind,hroom,Result.andThen_ok,kz hsz'];by_cases hb00:b.toNat=0
 ·simp[hb00,newRow,show Array.range 0=#[] from rfl]
 ·rw[if_neg (by omega)];simp only[Sem.run_bind,Sem.run_pure,Result.andThen_ok,hv,hcz];rw[show([Value.int k 0]:List Value).toArray=#[Value.int k 0] from rfl,hz3];simp[newRow]
theorem kkh {X:XE→SS→Prop} {t e:TypeId} {z:List Value} {l c:Operand} {l' c':XO} {i:TypeInfo} (hok:Ok P σ s w) (ho:o.op=.makeSlice t l c) (ht:P.underlying t=some (.slice e)) (hi:P.info? e=some i)
  (hz:jn P e=some z) (hzl:z.length=i.size) (hs1:1≤i.size) (hby:1≤i.bytes) (hl:cO l=some l') (hc:cO c=some c')
  (h:kL std P (.mkslR e i.size i.bytes (z.map ofV) l' c') s K X):jM P o σ s w K:=by
 simp only[kL] at h;have hx:∃a b,den σ (ev s l')=.int .i64 a∧den σ (ev s c')=.int .i64 b∧(qz a∧qz b∧InC a (std.toN b)∧kc0 b i.bytes ∧
   scS s (K (.slice s.h.length .z i.size (std.toN a) (std.toN b)) (alloc (.arr e i.size (std.toN b) (fun _=>z.map ofV)) s))):=by
  unfold kiv at h;split at h
  all_goals first|exact h.elim|(rename_i h1 h2;exact⟨_,_,by rw[h1];rfl,by rw[h2];rfl,h⟩)
 obtain⟨a,b,ha,hb,h0,hb0,h1,h2,h⟩:=hx;obtain⟨h,hsc⟩:=jp h;obtain⟨v,hv,hcz⟩:=qh hz;have h0:=h0.out;have h1:=h1.out;have h2:=h2.out;have hb0:=hb0.out;have hb63:b≤281474976710656:=by
  have h3:(1:Int)≤(i.bytes:Int):=by omega
  have h4:b*1≤b*(i.bytes:Int):=Int.mul_le_mul_of_nonneg_left h3 hb0;omega
 have hab:a≤b:=by simp only[std] at h1;omega
 have wr:∀x:Int,0≤x→x≤281474976710656→IntKind.i64.wrap x=x:=by
  intro x h1 h2;simp[IntKind.wrap,IntKind.bits,IntKind.signed]
  omega
 have ea:=wr a h0 (by omega);have eb:=wr b hb0 hb63;have hsz':kG P e=some i.size:=by simp[kG,hi]
 have hcells:∀m k u,m<b.toNat→(z.map ofV)[k]?=some u→((Array.range (b.toNat*i.size)).map fun q=>(z.toArray)[q % (z.toArray).size]!)[m*i.size+k]?=some (den (more σ s.h.length (some (w.heap.size,0))) u):=by
  intro m k u hm hk;rw[List.getElem?_map] at hk;have hkl:k<z.length:=by
   cases hzk:z[k]? with
   |none=>rw[hzk] at hk;cases hk
   |some y=>exact(List.getElem?_eq_some_iff.1 hzk).1
  rw[List.getElem?_eq_getElem hkl] at hk;simp only[Option.map_some,Option.some.injEq] at hk;subst hk;have hmk:m*i.size+k<b.toNat*i.size:=by
   have:(m+1)*i.size≤b.toNat*i.size:=Nat.mul_le_mul_right _ hm;rw[Nat.add_mul] at this;omega
  have hmod:(m*i.size+k) % z.length=k:=by rw[hzl,Nat.mul_comm,Nat.mul_add_mod,Nat.mod_eq_of_lt (by omega)]
  rw[Array.getElem?_map,Array.getElem?_eq_getElem (by simpa using hmk)];simp[hmod,hkl,kbz]
 refine qD (cells:=(Array.range (b.toNat*i.size)).map fun q=>(z.toArray)[q % (z.toArray).size]!) (t:=e) hok h hsc ?_ (res:=.slice (some ⟨w.heap.size,0,none⟩) a.toNat b.toNat) (by simp[den,more,ixN,std])
  ⟨w.heap.size,_,rfl,jb _ _,by simp[std],fun m hm=>⟨by simp[hzl],fun k u hk=>hcells m k u (by simpa [std] using hm) hk⟩⟩
 have hti:∀w,(typeInfo e).run P w=.ok i w:=fun w=>by simp[typeInfo,hi]
 have hroom:∀n w,(askRoom n).run P w=.ok () w:=by
  intro n w;unfold askRoom;split
  ·rfl
  ·rfl
 have hcond:(decide (b<0)||decide ((i.bytes:Int)*b>2^48)||decide (a<0)||decide (a>b))=false:=by
  have:(i.bytes:Int)*b≤2^48:=by rw[Int.mul_comm];simpa using h2
  simp
  omega
 simp only[execOp,ho,Instr.makeSlice,Sem.run_bind,kM ht,Result.andThen_ok,ke hl,ke hc,ha,hb,asInt,asIntOf,Sem.run_pure,hti,ea,eb];have h5:¬(decide (b<0)||decide ((i.bytes:Int)*b>2^48)||decide (a<0)||decide (a>b))=true:=by rw[hcond];simp
 simp only[gt_iff_lt] at h5 ⊢
 rw[if_neg h5];simp only[Sem.run_bind,hroom,Result.andThen_ok,kz hsz'];by_cases hb00:b.toNat=0
 ·simp[hb00,newRow,show Array.range 0=#[] from rfl]
 ·have hp:0<b.toNat*i.size:=Nat.mul_pos (by omega) hs1;rw[if_neg (by omega)];simp only[Sem.run_bind,Sem.run_pure,Result.andThen_ok,hv,hcz];simp[newRow]

theorem one_cell {v:SV} (h:one v=true) (σ:Names):(den σ v).oneCell'=true∧(den σ v).cells=#[den σ v]:=by
 cases v with
 |val u=>
  simp only[one] at h;unfold kor at h;split at h<;>first|(cases h;done)|simp[den,Value.oneCell',Value.cells]
 |_=>simp[one] at h<;>simp[den,Value.oneCell',Value.cells]
theorem kf9 {l:List Int} {i:Nat} {k:IntKind} {n:Int}:((l.map (Value.int k)).toArray).setIfInBounds i (.int k n)=((l.set i n).map (Value.int k)).toArray:=by
 simp[List.map_set]
theorem kej {l l':List Int} {i:Nat} {k:IntKind} {n:Int} (h:i<l.length):(((l++l').map (Value.int k)).toArray).setIfInBounds i (.int k n)=((l.set i n++l').map (Value.int k)).toArray:=by
 simp only[List.setIfInBounds_toArray,←List.map_set];rw[List.set_append_left _ _ h]
theorem kki {B:SB} {p:Option (Nat×Nat)} {ix:Ix} {sz j:Nat} {v:SV} {K:SB→Prop} (hb:holds P σ p w B) (h:stB std B ix sz j v K) :
  ∃B' g,K B'∧p=some (g,0)∧own B=true∧own B'=true∧B≠.defd∧jh B=false∧(den σ v).oneCell'=true∧(w.cell? ⟨g,ixN ix*sz+j,none⟩).isSome=true∧w.frozen? ⟨g,ixN ix*sz+j,none⟩=false ∧
   holds P σ (some (g,0)) (w.setCell ⟨g,ixN ix*sz+j,none⟩ (den σ v)) B':=by
 unfold stB at h;split at h
 ·rename_i t row;obtain⟨b,rfl,hh⟩:=hb;split at h
  rotate_left
  ·exact h.elim
  rename_i h1;split at h
  rotate_left
  ·exact h.elim
  rename_i hj;refine⟨_,b,h,rfl,rfl,rfl,(by simp),rfl,(one_cell h1 σ).1,?_,kQ hh _,⟨b,rfl,?_⟩⟩
  ·rw[kj hh];simp[ixN,kq,hj]
  ·rw[setCell_eq_setRow _ _ _ _ _ _ _ hh,setRow_heap _ _ _ _ _ _ hh];simp[ixN,kq,List.map_set]
 ·rename_i t row i;obtain⟨b,rfl,hh⟩:=hb;split at h
  rotate_left
  ·exact h.elim
  rename_i h1;split at h
  rotate_left
  ·exact h.elim
  rename_i hj;refine⟨_,b,h,rfl,rfl,rfl,(by simp),rfl,(one_cell h1 σ).1,?_,kQ hh _,⟨b,rfl,?_⟩⟩
  ·rw[kj hh];simp[ixN,kq,hj]
  ·rw[setCell_eq_setRow _ _ _ _ _ _ _ hh,setRow_heap _ _ _ _ _ _ hh];simp[ixN,kq,List.map_set]
 ·rename_i t k l;obtain⟨b,rfl,hh⟩:=hb;split at h
  ·obtain⟨n,hn,h⟩:=jz h (σ:=σ);have hl:=h.1.out;refine⟨_,b,h.2,rfl,rfl,rfl,(by simp),rfl,by rw[hn];rfl,?_,kQ hh _,⟨b,rfl,?_⟩⟩
   ·rw[kj hh,kb4 (by simpa [std,ixN] using hl)];rfl
   ·rw[setCell_eq_setRow _ _ _ _ _ _ _ hh,setRow_heap _ _ _ _ _ _ hh,hn,kf9];simp[ixN,std]
  ·obtain⟨n,hn,h⟩:=jz h (σ:=σ);have hl:=h.1.out;refine⟨_,b,h.2,rfl,rfl,rfl,(by simp),rfl,by rw[hn];rfl,?_,kQ hh _,⟨b,rfl,?_⟩⟩
   ·rw[kj hh,kb4 (by simpa [std,ixN] using hl)];rfl
   ·rw[setCell_eq_setRow _ _ _ _ _ _ _ hh,setRow_heap _ _ _ _ _ _ hh,hn,kf9];simp[ixN,std]
 ·rename_i t k l i;obtain⟨b,rfl,hh⟩:=hb;split at h
  ·obtain⟨n,hn,h⟩:=jz h (σ:=σ);have hl:=h.1.out;refine⟨_,b,h.2,rfl,rfl,rfl,(by simp),rfl,by rw[hn];rfl,?_,kQ hh _,⟨b,rfl,?_⟩⟩
   ·rw[kj hh,kb4 (by simpa [std,ixN] using hl)];rfl
   ·rw[setCell_eq_setRow _ _ _ _ _ _ _ hh,setRow_heap _ _ _ _ _ _ hh,hn,kf9];simp[ixN,std]
  ·exact h.elim
 ·rename_i t k l c;rcases hb with⟨rfl,rfl,_⟩|⟨b,l',rfl,hh,hc⟩
  ·split at h<;>(obtain⟨n,hn,h⟩:=jz h (σ:=σ);have:=h.1.out;simp[std] at this)
  ·split at h
   ·obtain⟨n,hn,h⟩:=jz h (σ:=σ);have hl:0<l.length:=by simpa [std] using h.1.out
    refine⟨_,b,h.2,rfl,rfl,rfl,(by simp),rfl,by rw[hn];rfl,?_,kQ hh _,.inr ⟨b,l',rfl,?_,?_⟩⟩
    ·rw[kj hh,kaa (by simpa [ixN] using hl)];rfl
    ·rw[setCell_eq_setRow _ _ _ _ _ _ _ hh,setRow_heap _ _ _ _ _ _ hh,hn,kej (by simpa [ixN] using hl)];simp[ixN,std]
    ·simpa [std] using hc
   ·obtain⟨n,hn,h⟩:=jz h (σ:=σ);have hl:j<l.length:=by simpa [std] using h.1.out
    refine⟨_,b,h.2,rfl,rfl,rfl,(by simp),rfl,by rw[hn];rfl,?_,kQ hh _,.inr ⟨b,l',rfl,?_,?_⟩⟩
    ·rw[kj hh,kaa (by simpa [ixN] using hl)];rfl
    ·rw[setCell_eq_setRow _ _ _ _ _ _ _ hh,setRow_heap _ _ _ _ _ _ hh,hn,kej (by simpa [ixN] using hl)];simp[ixN,std]
    ·simpa [std] using hc
 ·rename_i t k l c i;split at h
  rotate_left
  ·exact h.elim
  obtain⟨n,hn,h⟩:=jz h (σ:=σ);have hl:i<l.length:=by simpa [std] using h.1.out
  rcases hb with⟨rfl,rfl,_⟩|⟨b,l',rfl,hh,hc⟩
  ·simp at hl
  ·refine⟨_,b,h.2,rfl,rfl,rfl,(by simp),rfl,by rw[hn];rfl,?_,kQ hh _,.inr ⟨b,l',rfl,?_,?_⟩⟩
   ·rw[kj hh,kaa (by simpa [ixN] using hl)];rfl
   ·rw[setCell_eq_setRow _ _ _ _ _ _ _ hh,setRow_heap _ _ _ _ _ _ hh,hn,kej (by simpa [ixN] using hl)];simp[ixN,std]
   ·simpa [std] using hc
 ·rename_i t sz' len f i;split at h
  rotate_left
  ·exact h.elim
  rename_i hsz;obtain rfl:sz=sz':=by simpa using hsz
  split at h
  rotate_left
  ·exact h.elim
  rename_i h1;split at h
  rotate_left
  ·exact h.elim
  rename_i hj;obtain⟨hi,hK⟩:=h;have hi:=hi.out;obtain⟨b,cs,rfl,hh,hc,hf⟩:=hb;have hlen:=(hf i hi).1;have hjl:j<(f i).length:=by omega
  have hin:i*sz+j<cs.size:=by
   rw[hc];have:(i+1)*sz≤len*sz:=Nat.mul_le_mul_right _ hi;rw[Nat.add_mul] at this;omega
  refine⟨_,b,hK,rfl,rfl,rfl,(by simp),rfl,(one_cell h1 σ).1,?_,kQ hh _,⟨b,cs.setIfInBounds (i*sz+j) (den σ v),rfl,?_,by simpa using hc,fun m hm=>⟨?_,fun k u hk=>?_⟩⟩⟩
  ·rw[kj hh];simp only[ixN];rw[(hf i hi).2 j _ (List.getElem?_eq_getElem hjl)];rfl
  ·rw[setCell_eq_setRow _ _ _ _ _ _ _ hh,setRow_heap _ _ _ _ _ _ hh];simp[ixN]
  ·rw[j4];split
   ·subst m;simpa using hlen
   ·exact(hf m hm).1
  ·by_cases hmi:m=i
   ·subst hmi;rw[j4,if_pos rfl,List.getElem?_set] at hk;split at hk
    ·rename_i hjk;subst hjk
     cases hk
     simp[hin]
    ·rename_i hjk;rw[Array.getElem?_setIfInBounds_ne (by omega)];exact(hf m hm).2 k u hk
   ·rw[j4,if_neg hmi] at hk;have hkl:k<sz:=by rw[←(hf m hm).1];exact(List.getElem?_eq_some_iff.1 hk).1
    have hne:i*sz+j≠m*sz+k:=by
     intro e;rcases Nat.lt_or_gt_of_ne hmi with h|h
     ·have:(m+1)*sz≤i*sz:=Nat.mul_le_mul_right _ h;rw[Nat.add_mul] at this;omega
     ·have:(i+1)*sz≤m*sz:=Nat.mul_le_mul_right _ h;rw[Nat.add_mul] at this;omega
    rw[Array.getElem?_setIfInBounds_ne hne];exact(hf m hm).2 k u hk
 ·rename_i t sz' row c i;split at h
  rotate_left
  ·exact h.elim
  rename_i hsz;obtain rfl:sz=sz':=by simpa using hsz
  split at h
  rotate_left
  ·exact h.elim
  rename_i h1;split at h
  rotate_left
  ·exact h.elim
  rename_i hj;rcases hb with⟨_,rfl,_⟩|⟨b,rest,rfl,hh,hc⟩
  ·simp at hj
  have hjl:i*sz+j<(denL σ row).length:=by rw[kq,List.length_map];exact hj
  refine⟨_,b,h,rfl,rfl,rfl,(by simp),rfl,(one_cell h1 σ).1,?_,kQ hh _,.inr ⟨b,rest,rfl,?_,?_⟩⟩
  ·rw[kj hh];simp only[ixN,List.getElem?_toArray];first|rw[List.getElem?_append_left hjl,List.getElem?_eq_getElem hjl];rfl|(simp only[Nat.zero_mul,Nat.zero_add];rw[List.getElem?_append_left hjl,List.getElem?_eq_getElem hjl];rfl)
  ·rw[setCell_eq_setRow _ _ _ _ _ _ _ hh,setRow_heap _ _ _ _ _ _ hh];have e:denL σ (row.set (i*sz+j) v)=(denL σ row).set (i*sz+j) (den σ v):=by rw[kq,kq,List.map_set]
   rw[e];simp only[ixN,Nat.zero_mul,Nat.zero_add,List.setIfInBounds_toArray];rw[List.set_append_left _ _ hjl]
  ·have e:(denL σ (row.set (i*sz+j) v)).length=(denL σ row).length:=by rw[kq,kq,List.length_map,List.length_map,List.length_set]
   simp only[List.length_append] at hc ⊢
   rw[e];exact hc
 ·rename_i t sz' row c;split at h
  rotate_left
  ·exact h.elim
  rename_i hsz;obtain rfl:sz=sz':=by simpa using hsz
  split at h
  rotate_left
  ·exact h.elim
  rename_i h1;split at h
  rotate_left
  ·exact h.elim
  rename_i hj;rcases hb with⟨_,rfl,_⟩|⟨b,rest,rfl,hh,hc⟩
  ·simp at hj
  have hjl:j<(denL σ row).length:=by rw[kq,List.length_map];exact hj
  refine⟨_,b,h,rfl,rfl,rfl,(by simp),rfl,(one_cell h1 σ).1,?_,kQ hh _,.inr ⟨b,rest,rfl,?_,?_⟩⟩
  ·rw[kj hh];simp only[ixN,List.getElem?_toArray];first|rw[List.getElem?_append_left hjl,List.getElem?_eq_getElem hjl];rfl|(simp only[Nat.zero_mul,Nat.zero_add];rw[List.getElem?_append_left hjl,List.getElem?_eq_getElem hjl];rfl)
  ·rw[setCell_eq_setRow _ _ _ _ _ _ _ hh,setRow_heap _ _ _ _ _ _ hh];have e:denL σ (row.set (j) v)=(denL σ row).set (j) (den σ v):=by rw[kq,kq,List.map_set]
   rw[e];simp only[ixN,Nat.zero_mul,Nat.zero_add,List.setIfInBounds_toArray];rw[List.set_append_left _ _ hjl]
  ·have e:(denL σ (row.set (j) v)).length=(denL σ row).length:=by rw[kq,kq,List.length_map,List.length_map,List.length_set]
   simp only[List.length_append] at hc ⊢
   rw[e];exact hc
 ·rename_i t sz' len f cap i;split at h
  rotate_left
  ·exact h.elim
  rename_i hsz;obtain rfl:sz=sz':=by simpa using hsz
  split at h
  rotate_left
  ·exact h.elim
  rename_i h1;split at h
  rotate_left
  ·exact h.elim
  rename_i hj;obtain⟨hi,hK⟩:=h;have hi:=hi.out;rcases hb with⟨_,rfl,_⟩|⟨b,cs,rfl,hh,hc,hc2,hf⟩
  ·omega
  have hlen:=(hf i hi).1;have hjl:j<(f i).length:=by omega
  have hin:i*sz+j<cs.size:=by
   have:(i+1)*sz≤len*sz:=Nat.mul_le_mul_right _ hi;rw[Nat.add_mul] at this;omega
  refine⟨_,b,hK,rfl,rfl,rfl,(by simp),rfl,(one_cell h1 σ).1,?_,kQ hh _,.inr ⟨b,cs.setIfInBounds (i*sz+j) (den σ v),rfl,?_,by simpa using hc,by simpa using hc2,fun m hm=>⟨?_,fun k u hk=>?_⟩⟩⟩
  ·rw[kj hh];simp only[ixN];rw[(hf i hi).2 j _ (List.getElem?_eq_getElem hjl)];rfl
  ·rw[setCell_eq_setRow _ _ _ _ _ _ _ hh,setRow_heap _ _ _ _ _ _ hh];simp[ixN]
  ·rw[j4];split
   ·subst m;simpa using hlen
   ·exact(hf m hm).1
  ·by_cases hmi:m=i
   ·subst hmi;rw[j4,if_pos rfl,List.getElem?_set] at hk;split at hk
    ·rename_i hjk;subst hjk
     cases hk
     simp[hin]
    ·rename_i hjk;rw[Array.getElem?_setIfInBounds_ne (by omega)];exact(hf m hm).2 k u hk
   ·rw[j4,if_neg hmi] at hk;have hkl:k<sz:=by rw[←(hf m hm).1];exact(List.getElem?_eq_some_iff.1 hk).1
    have hne:i*sz+j≠m*sz+k:=by
     intro e;rcases Nat.lt_or_gt_of_ne hmi with h|h
     ·have:(m+1)*sz≤i*sz:=Nat.mul_le_mul_right _ h;rw[Nat.add_mul] at this;omega
     ·have:(i+1)*sz≤m*sz:=Nat.mul_le_mul_right _ h;rw[Nat.add_mul] at this;omega
    rw[Array.getElem?_setIfInBounds_ne hne];exact(hf m hm).2 k u hk
 ·exact h.elim
theorem kfe {x v:SV} {K:SS→Prop} (hok:Ok P σ s w) (h:st1 std s x v K) :
  ∃s' a,K s'∧den σ x=.pointer (some a)∧(store a (den σ v)).run P w=.ok () (w.setCell a (den σ v))∧Ok P σ s' (w.setCell a (den σ v))∧Step σ s w σ s' (w.setCell a (den σ v))∧act σ s'=act σ s∧s'.h.length=s.h.length:=by
 unfold st1 at h;split at h
 rotate_left
 ·exact h.elim
 rename_i b i sz j;split at h
 rotate_left
 ·exact h.elim
 rename_i B hB;obtain⟨B',g,hK,hp,ho1,ho2,hnd,hnl,h1,hc,hfz,hh⟩:=kki (hok.blk b B hB) h;have hup:=hok.update (w':=w.setCell ⟨g,ixN i*sz+j,none⟩ (den σ v)) hB ho1 hp ho2 (fun e=>absurd e hnd) (fun e=>by rw[hnl] at e;cases e)
  (fun k hk=>by simp only[World.setCell];rw[Array.getElem?_modify];simp[Ne.symm hk]) (by simp[World.setCell]) rfl rfl rfl hh
 refine⟨_,⟨g,ixN i*sz+j,none⟩,hK,by simp[den,hp],?_,hup.1,hup.2,rfl,by simp⟩
 rw[run_store P w _ _ _ h1];cases hcc:w.cell? ⟨g,ixN i*sz+j,none⟩ with
 |none=>rw[hcc] at hc;cases hc
 |some u=>simp[hfz]
theorem kff {b:Nat} {i:Ix} {sz:Nat} {q:Nat×Nat} (hq:σ b=some q):∀{cs:List SV} {j:Nat} {s:SS} {w:World} {K:SS→Prop},Ok P σ s w→stN std b i sz cs j s K →
  ∃s' w',K s'∧(∀m a,a=(⟨q.1,q.2+(ixN i*sz+m),none⟩:Addr)→∀k,m+k=j→(storeCells a (denL σ cs) k).run P w=.ok () w')∧Ok P σ s' w'∧Step σ s w σ s' w'∧act σ s'=act σ s
 |[],j,s,w,K,hok,h=>⟨s,w,h,fun m a ha k hk=>rfl,hok,Step.refl σ s w,rfl⟩
 |v::cs,j,s,w,K,hok,h=>by
  simp only[stN] at h;obtain⟨s1,a1,h,ha1,hr1,hok1,hst1,hact1,_⟩:=kfe hok h;obtain⟨s2,w2,hK,hr2,hok2,hst2,hact2⟩:=kff hq hok1 h;have e1:a1=⟨q.1,q.2+(ixN i*sz+j),none⟩:=by simp[den,hq] at ha1;exact ha1.symm
  refine⟨s2,w2,hK,fun m a ha k hk=>?_,hok2,hst1.trans hst2,hact2.trans hact1⟩
  simp only[denL,storeCells,Sem.run_bind];have e2:a.add k=a1:=by rw[ha,jN,e1];congr 1;omega
  rw[e2,hr1];exact hr2 m a ha (k+1) (by omega)
theorem kiC {X:XE→SS→Prop} {t:TypeId} {a v:Operand} {a' v':XO} (hok:Ok P σ s w) (ho:o.op=.store t a v) (hs:kG P t=some 1) (ha:cO a=some a') (hv:cO v=some v')
  (h:kL std P (.store1 a' v') s K X):jM P o σ s w K:=by
 simp only[kL] at h;obtain⟨cs,h,hcs⟩:=kaI h σ;split at h
 rotate_left
 ·exact h.elim
 rename_i u;obtain⟨s',ad,hK,had,hr,h1,h2,h3,_⟩:=kfe hok h;refine⟨_,σ,s',_,hK,.inr ⟨?_,rfl⟩,h1,h2,h3⟩
 have hr':(storeCells ad [den σ u]).run P w=.ok () (w.setCell ad (den σ u)):=by
  simp[storeCells,Addr.add,hr]
 simp[execOp,ho,ke ha,ke hv,had,Instr.storeAt,Instr.sureAddr,storeVar,hcs,denL,kz hs,hr']
theorem kiD {X:XE→SS→Prop} {t:TypeId} {a v:Operand} {a' v':XO} {n:Nat} (hok:Ok P σ s w) (ho:o.op=.store t a v) (hs:kG P t=some n) (ha:cO a=some a') (hv:cO v=some v')
  (h:kL std P (.storeA n a' v') s K X):jM P o σ s w K:=by
 simp only[kL] at h;split at h
 rotate_left
 ·exact h.elim
 rename_i b i sz j cs hxa hxv;split at h
 rotate_left
 ·exact h.elim
 rename_i hl;have hl:cs.length=n:=by simpa using hl
 obtain⟨h,q,hq⟩:=jD hok h;obtain⟨s',w',hK,hr,h1,h2,h3⟩:=kff hq hok h;refine⟨_,σ,s',w',hK,.inr ⟨?_,rfl⟩,h1,h2,h3⟩
 have hr':=hr j _ rfl 0 (by omega);simp[execOp,ho,ke ha,ke hv,hxa,hxv,den,hq,Instr.storeAt,Instr.sureAddr,storeVar,Value.cells,jC,hl,kz hs,hr']
end
end Go.Sx
