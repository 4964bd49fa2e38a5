/-
  The engine, part 3: what it is that a state holds of a world; the evaluation of the compact code.
-/
import Derived.Test.YtgbnngjmjimhiaaSx2
namespace Go.Sx
open Go

/-! ### A state holds of a world -/
def own : SB → Bool
  | .free => false
  | .ro _ _ => false
  | .roA _ _ _ => false
  | _ => true
def lst : LSt → LoopState
  | .ready => .ready
  | .busy => .busy
  | .done => .done
  | .exhausted => .exhausted
def jump : XE → Option Code
  | .ret => some .ret
  | .exit id => some (.exit id)
  | _ => none
def holds (P : Program) (σ : Names) (p : Option (Nat × Nat)) (w : World) : SB → Prop
  | .free => True
  | .one t row => ∃ b, p = some (b, 0) ∧ w.heap[b]? = some (.cells (denL σ row).toArray t (0, 0))
  | .ints t k l => ∃ b, p = some (b, 0) ∧ w.heap[b]? = some (.cells (l.map (Value.int k)).toArray t (0, 0))
  | .buf t k l c => (p = none ∧ l = [] ∧ c = 0) ∨
      ∃ b l', p = some (b, 0) ∧ w.heap[b]? = some (.cells ((l ++ l').map (Value.int k)).toArray t (0, 0)) ∧ c ≤ (l ++ l').length
  | .arr t sz len f => ∃ b cs, p = some (b, 0) ∧ w.heap[b]? = some (.cells cs t (0, 0)) ∧ cs.size = len * sz ∧
      ∀ i, i < len → (f i).length = sz ∧ ∀ j v, (f i)[j]? = some v → cs[i * sz + j]? = some (den σ v)
  | .ro k l => (p = none ∧ l = []) ∨ ∃ b o, p = some (b, o) ∧ ∀ i, i < l.length → w.cell? ⟨b, o + i, none⟩ = some (.int k (l.getD i 0))
  | .roA sz len f => (p = none ∧ len = 0) ∨ ∃ b o, p = some (b, o) ∧
      ∀ i, i < len → (f i).length = sz ∧ ∀ j v, (f i)[j]? = some v → w.cell? ⟨b, o + (i * sz + j), none⟩ = some (den σ v)
  | .loop s pend t ps asg body => ∃ b fn ca cb d, p = some (b, 0) ∧ compile P ca = some asg ∧ compile P cb = some body ∧
      w.heap[b]? = some (.loop { state := lst s, pending := pend.bind jump, fn, tmps := (denL σ t).toArray, params := ps.toArray, assign := ca, body := cb, defers := d })
  | .defd => ∃ b, p = some (b, 0) ∧ w.heap[b]? = some (.deferred (some []))

def isLoop : SB → Bool
  | .loop _ _ _ _ _ _ => true
  | _ => false
structure Ok (P : Program) (σ : Names) (s : SS) (w : World) : Prop where
  lt : ∀ i p, i < s.h.length → σ i = some p → p.1 < w.heap.size
  ne : ∀ i j B C p q, i ≠ j → s.h[i]? = some B → s.h[j]? = some C → (own B = true ∨ own C = true) → σ i = some p → σ j = some q → p.1 ≠ q.1
  blk : ∀ i B, s.h[i]? = some B → holds P σ (σ i) w B
  marks : ∀ l, l ∈ s.d → l ∉ s.r ∧ s.h[l]? = some .defd
  rnd : ∀ l, s.rd = some l → l ∉ s.r ∧ ∃ B, s.h[l]? = some B ∧ isLoop B = true

structure Step (σ : Names) (s : SS) (w : World) (σ' : Names) (s' : SS) (w' : World) : Prop where
  size : w.heap.size ≤ w'.heap.size
  os : w'.os = w.os
  tape : w'.tape = w.tape
  output : w'.output = w.output
  far : ∀ b, b < w.heap.size → (∀ i B p, s.h[i]? = some B → own B = true → σ i = some p → p.1 ≠ b) → w'.heap[b]? = w.heap[b]?
  len : s.h.length ≤ s'.h.length
  names : ∀ i, i < s.h.length → i ∉ s'.r → σ' i = σ i
  red : ∀ i, i ∈ s.r → i ∈ s'.r
  own : ∀ i B p, s'.h[i]? = some B → own B = true → σ' i = some p → p.1 < w.heap.size → ∃ j C q, s.h[j]? = some C ∧ Sx.own C = true ∧ σ j = some q ∧ q.1 = p.1
  rd : s'.rd = s.rd

def mark (σ : Names) (l : Nat) : Deferred := { target := .collected (((σ l).map (·.1)).getD 0), args := #[] }
def act (σ : Names) (s : SS) : Act := { tmps := (denL σ s.t).toArray, defers := s.d.map (mark σ) }
def FR (r : Option Nat) : Fence := { Fence.wide with round := r }
def rOf (σ : Names) (s : SS) : Option Nat := s.rd.bind fun l => (σ l).map (·.1)

def exitOk (σ : Names) (s : SS) (a : Act) : XE → Exit → Prop
  | .normal, .normal => a = act σ s
  | .exit i, .exit j => i = j ∧ a = act σ s
  | .ret, .ret => a = act σ s
  | .panic v, .panic ch => ch = [{ v := den σ v, recovered := false }] ∧ a.defers = (act σ s).defers
  | _, _ => False
def Post (P : Program) (σ : Names) (s : SS) (w : World) (K : XE → SS → Prop) : Exit → Act → World → Prop := fun e a w' =>
  ∃ e' σ' s', K e' s' ∧ Ok P σ' s' w' ∧ Step σ s w σ' s' w' ∧ exitOk σ' s' a e' e
def endOk (σ : Names) (s : SS) (K : SV → SS → Prop) (X : XE → SS → Prop) : Ending → Prop
  | .returned v => ∃ v', K v' s ∧ v = den σ v'
  | .panicked ch => ∃ v', X (.panic v') s ∧ ch = [{ v := den σ v', recovered := false }]
  | .outgrown => False
def CPost (P : Program) (σ : Names) (s : SS) (w : World) (K : SV → SS → Prop) (X : XE → SS → Prop) : Ending → World → Prop := fun e w' =>
  ∃ σ' s', Ok P σ' s' w' ∧ Step σ s w σ' s' w' ∧ act σ' s' = act σ s ∧ endOk σ' s' K X e

/-- The compact code x, begun in s, ends in what K takes. The evaluation stops at it. -/
structure WX (P : Program) (x : XC) (s : SS) (K : XE → SS → Prop) : Prop where
  out : ∀ c, compile P c = some x → ∀ σ w, Ok P σ s w → c.wpIn (FR (rOf σ s)) 0 P (Post P σ s w K) (act σ s) w
structure CallX (P : Program) (f : Nat) (args : List SV) (s : SS) (K : SV → SS → Prop) (X : XE → SS → Prop) : Prop where
  go : ∀ (xs : Array Value) (w : World), (callFunc f xs).run P w = .ok (.enter f xs) w
  out : ∀ σ w, Ok P σ s w → CallsIn (FR (rOf σ s)) 0 P f (denL σ args).toArray w (CPost P σ s w K X)
/-- A call of yield. -/
structure YieldX (P : Program) (l : Nat) (args : List SV) (s : SS) (K : SV → SS → Prop) (X : XE → SS → Prop) : Prop where
  out : ∀ σ w, Ok P σ s w → ∃ fn tmps asg body, (invoke (.fn (.yield (((σ l).map (·.1)).getD 0)) #[]) (denL σ args).toArray).run P w = .ok (.round (((σ l).map (·.1)).getD 0) fn tmps asg body) w ∧
    RoundIn (FR (rOf σ s)) 0 P (((σ l).map (·.1)).getD 0) fn tmps asg body w (CPost P σ s w K X)

/-! ### The evaluation -/
def condP (v : SV) (A B : Unit → Prop) : Prop :=
  match v with
  | .bool b => match b with
    | true => A ()
    | false => B ()
  | _ => False
def isSh (op : BinOp) : Bool :=
  match op with
  | .shl => true
  | .shr => true
  | _ => false
def isDiv (op : BinOp) : Bool :=
  match op with
  | .quo => true
  | .rem => true
  | _ => false
def binV (O : Ops) (op : BinOp) (k : IntKind) (x y : SV) (K : SV → Prop) : Prop :=
  match x, y with
  | .lit k1 a, .lit k2 b => if kEq k k1 && (isSh op || kEq k k2) then (if isSh op && decide (b < 0) then False else if isDiv op && b == 0 then False else K (.lit k (bV op k a b))) else False
  | .int k1 a, .lit k2 b => if kEq k k1 && (isSh op || kEq k k2) then (if isSh op && decide (b < 0) then False else if isDiv op && b == 0 then False else K (.int k (O.b op k a b))) else False
  | .lit k1 a, .int k2 b => if kEq k k1 && (isSh op || kEq k k2) then (if isSh op then NonNeg b ∧ K (.int k (O.b op k a b)) else if isDiv op then NonZ b ∧ K (.int k (O.b op k a b)) else K (.int k (O.b op k a b))) else False
  | .int k1 a, .int k2 b => if kEq k k1 && (isSh op || kEq k k2) then (if isSh op then NonNeg b ∧ K (.int k (O.b op k a b)) else if isDiv op then NonZ b ∧ K (.int k (O.b op k a b)) else K (.int k (O.b op k a b))) else False
  | _, _ => False
def cmpV (O : Ops) (op : BinOp) (x y : SV) (K : SV → Prop) : Prop :=
  match x, y with
  | .lit k1 a, .lit k2 b => if kEq k1 k2 then K (.bool (cV op a b)) else False
  | .int k1 a, .lit k2 b => if kEq k1 k2 then K (.bool (O.c op a b)) else False
  | .lit k1 a, .int k2 b => if kEq k1 k2 then K (.bool (O.c op a b)) else False
  | .int k1 a, .int k2 b => if kEq k1 k2 then K (.bool (O.c op a b)) else False
  | _, _ => False
def mmV (O : Ops) (mx : Bool) (x y : SV) (K : SV → Prop) : Prop :=
  match x, y with
  | .lit k1 a, .lit k2 b => if kEq k1 k2 then K (.lit k1 (if mx then (if b > a then b else a) else (if b < a then b else a))) else False
  | .int k1 a, .lit k2 b => if kEq k1 k2 then K (.int k1 (if mx then O.maxI a b else O.minI a b)) else False
  | .lit k1 a, .int k2 b => if kEq k1 k2 then K (.int k1 (if mx then O.maxI a b else O.minI a b)) else False
  | .int k1 a, .int k2 b => if kEq k1 k2 then K (.int k1 (if mx then O.maxI a b else O.minI a b)) else False
  | _, _ => False
def idxP (O : Ops) (i : SV) (n : Nat) (K : Nat → Prop) : Prop :=
  match i with
  | .lit _ m => InR m n ∧ K m.toNat
  | .int _ m => InR m n ∧ K (O.toN m)
  | _ => False
def exPure (O : Ops) (o : XOp) (s : SS) (K : SV → Prop) : Prop :=
  match o with
  | .mv x => K (ev s x)
  | .mvS x => match ev s x with
    | .str l => K (.str l)
    | _ => False
  | .pick c a b => condP (ev s c) (fun _ => K (ev s a)) (fun _ => K (ev s b))
  | .build zero ps => fillP s ps zero (fun row => K (.agg row))
  | .nilchk x => match ev s x with
    | .ptr b i sz j => there s b (K (.ptr b i sz j))
    | .fn f cs => K (.fn f cs)
    | .yield l => K (.yield l)
    | _ => False
  | .bin op k x y => binV O op k (ev s x) (ev s y) K
  | .cmp op x y => cmpV O op (ev s x) (ev s y) K
  | .eqv neg ty x y => eqSV O s neg ty (ev s x) (ev s y) (fun b => K (.bool b))
  | .not x => match ev s x with
    | .bool b => K (.bool (O.notB b))
    | _ => False
  | .neg k x => binV O .sub k (.lit k 0) (ev s x) K
  | .cpl k x => intOf k (ev s x) (fun n => K (.int k (O.b .xor k (if k.signed then -1 else k.max) n)))
  | .conv k x => match ev s x with
    | .lit _ n => K (.lit k (k.wrap n))
    | .int _ n => K (.int k (O.w k n))
    | _ => False
  | .fadr off x => match ev s x with
    | .ptr b i sz j => there s b (K (.ptr b i sz (j + off)))
    | _ => False
  | .fld off ag x => match ev s x with
    | .agg cs => (match ag with
      | none => rowAt cs off K
      | some n => if off + n ≤ cs.length then K (.agg ((cs.drop off).take n)) else False)
    | _ => False
  | .idxS x i => match ev s x with
    | .str l => idxP O (ev s i) (O.ln l) (fun n => K (.int .u8 (O.byteV (O.gd l n))))
    | _ => False
  | .iadr sz x i => match ev s x with
    | .slice b ix sz' len _ => if sz == sz' then idxP O (ev s i) len (fun n => (match s.h[b]? with
      | some (.ro _ l) => Lt (O.addN (ixN ix) n) (O.ln l) ∧ K (.ptr b (addIx O ix n) sz 0)
      | some (.roA _ m _) => Lt (O.addN (ixN ix) n) m ∧ K (.ptr b (addIx O ix n) sz 0)
      | some (.buf _ _ l _) => Lt (O.addN (ixN ix) n) (O.ln l) ∧ K (.ptr b (addIx O ix n) sz 0)
      | some (.ints _ _ _) => K (.ptr b (addIx O ix n) sz 0)
      | some (.one _ _) => K (.ptr b (addIx O ix n) sz 0)
      | some (.arr _ _ _ _) => K (.ptr b (addIx O ix n) sz 0)
      | _ => False)) else False
    | _ => False
  | .iadrA m sz x i => match ev s x with
    | .ptr b ix sz' j => (match ix, j with
      | .z, 0 => idxP O (ev s i) m (fun n => there s b (K (.ptr b (.n n) sz 0)))
      | _, _ => False)
    | _ => False
  | .slc sz x lo hi mx => match ev s x with
    | .slice b ix sz' len cap => if sz == sz' && (mx.isNone || hi.isSome) then bnd O (mx.map (ev s)) cap cap (fun m => bnd O (hi.map (ev s)) len m (fun h => bnd O (lo.map (ev s)) 0 h (fun l =>
        K (.slice b (match lo with | none => ix | some _ => .n (O.cutN (ixN ix) l m)) sz (match lo with | none => h | some _ => O.subN h l) (match lo with | none => m | some _ => O.subN m l))))) else False
    | _ => False
  | .slcA n sz x lo hi mx => match ev s x with
    | .ptr b ix _ j => (match ix, j with
      | .z, 0 => there s b (if mx.isSome && hi.isNone then False else bnd O (mx.map (ev s)) n n (fun m => bnd O (hi.map (ev s)) n m (fun h => bnd O (lo.map (ev s)) 0 h (fun l =>
        K (.slice b (match lo with | none => .z | some _ => .n (O.cutN 0 l m)) sz (match lo with | none => h | some _ => O.subN h l) (match lo with | none => m | some _ => O.subN m l))))))
      | _, _ => False)
    | _ => False
  | .len x => match ev s x with
    | .slice _ _ _ len _ => K (.int .i64 (O.ofN len))
    | .val (.slice none 0 0) => K (.lit .i64 0)
    | _ => False
  | .lenS x => match ev s x with
    | .str l => K (.int .i64 (O.ofN (O.ln l)))
    | _ => False
  | .max x y => mmV O true (ev s x) (ev s y) K
  | .min x y => mmV O false (ev s x) (ev s y) K
  | .mkfn f cs => K (.fn f (cs.map (ev s)))
  | .extract x i => match ev s x with
    | .tup vs => rowAt vs i K
    | _ => False
  | .mkif t x => K (.iface t (ev s x))
  | _ => False
def exLoad (O : Ops) (o : XOp) (s : SS) (K : SV → Prop) : Prop :=
  match o with
  | .load1 x => ld1 O s (ev s x) K
  | .loadA n x => match ev s x with
    | .ptr b i sz j => ldN O s b i sz n j (fun vs => K (.agg vs))
    | _ => False
  | .bstr x => srcI O s .u8 (ev s x) (fun l _ => K (.str l))
  | _ => False
def fillI (s : SS) (k : IntKind) : List Part → List Int → (List Int → Prop) → Prop
  | [], l, K => K l
  | p :: ps, l, K => intOf k (ev s p.x) (fun n => if p.off < l.length then fillI s k ps (l.set p.off n) K else False)
def twoI (l c : SV) (K : Int → Int → Prop) : Prop :=
  match l, c with
  | .lit .i64 a, .lit .i64 b => K a b
  | .int .i64 a, .int .i64 b => K a b
  | .lit .i64 a, .int .i64 b => K a b
  | .int .i64 a, .lit .i64 b => K a b
  | _, _ => False
def exAct (O : Ops) (P : Program) (o : XOp) (s : SS) (K : SV → SS → Prop) (X : XE → SS → Prop) : Prop :=
  match o with
  | .box t ik x => cellsP (ev s x) (fun cs => match ik with
    | none => scS s (K (.ptr s.h.length .z cs.length 0) (alloc (.one t cs) s))
    | some k => rowInts k cs (fun ns => scS s (K (.ptr s.h.length .z 1 0) (alloc (.ints t k ns) s))))
  | .newI t k n => scS s (K (.ptr s.h.length .z 1 0) (alloc (.ints t k (O.rep n 0)) s))
  | .newR t row => scS s (K (.ptr s.h.length .z row.length 0) (alloc (.one t row) s))
  | .bsliceI e k n ps => fillI s k ps (List.replicate n 0) (fun l => scS s (K (.slice s.h.length .z 1 n n) (alloc (.ints e k l) s)))
  | .store1 x v => cellsP (ev s v) (fun cs => match cs with
    | [v] => st1 O s (ev s x) v (fun s' => K .undef s')
    | _ => False)
  | .storeA n x v => match ev s x, ev s v with
    | .ptr b i sz j, .agg cs => if cs.length == n then there s b (stN O b i sz cs j s (fun s' => K .undef s')) else False
    | _, _ => False
  | .mkslI e k bytes l c => twoI (ev s l) (ev s c) (fun l c => NonNeg l ∧ NonNeg c ∧ InC l (O.toN c) ∧ FitsMk c bytes ∧ scS s (K (.slice s.h.length .z 1 (O.toN l) (O.toN c)) (alloc (.ints e k (O.rep (O.toN c) 0)) s)))
  | .appI e k bytes sl x => srcI O s k (ev s x) (fun xs m => appT O s e k bytes (ev s sl) xs m K)
  | .call f args => match ev s f with
    | .fn g cs => CallX P g (args.map (ev s) ++ cs) s K X
    | .yield l => YieldX P l (args.map (ev s)) s K X
    | _ => False
  | .pnc x => match ev s x with
    | .iface t v => X (.panic (.iface t v)) s
    | _ => False
  | _ => False
inductive Cls where
  | pure | load | act
def cls (o : XOp) : Cls :=
  match o with
  | .load1 _ => .load
  | .loadA _ _ => .load
  | .bstr _ => .load
  | .box _ _ _ => .act
  | .newI _ _ _ => .act
  | .newR _ _ => .act
  | .bsliceI _ _ _ _ => .act
  | .bsliceR _ _ _ _ _ => .act
  | .store1 _ _ => .act
  | .storeA _ _ _ => .act
  | .mkslI _ _ _ _ _ => .act
  | .appI _ _ _ _ _ => .act
  | .appZ _ _ _ _ _ => .act
  | .copyI _ _ => .act
  | .call _ _ => .act
  | .pnc _ => .act
  | _ => .pure
def exOp (O : Ops) (P : Program) (o : XOp) (s : SS) (K : SV → SS → Prop) (X : XE → SS → Prop) : Prop :=
  match cls o with
  | .pure => exPure O o s (fun v => K v s)
  | .load => exLoad O o s (fun v => K v s)
  | .act => exAct O P o s K X
def guardP (s : SS) (g : Option (Nat × Bool)) (A B : Unit → Prop) : Prop :=
  match g with
  | none => A ()
  | some (g, b) => match s.t.getD g .undef with
    | .bool c => (match b with
      | true => (match c with
        | true => A ()
        | false => B ())
      | false => (match c with
        | true => B ()
        | false => A ()))
    | .undef => B ()
    | _ => False
def chkP (O : Ops) (s : SS) : List (XOp × Nat × Option (Nat × Bool)) → Prop → Prop
  | [], Q => Q
  | (o, d, g) :: l, Q => if ltB d s.t.length then guardP s g (fun _ => exLoad O o s (fun v => v = s.t.getD d .undef)) (fun _ => True) ∧ chkP O s l Q else False
def exSteps (O : Ops) (P : Program) : List XStep → SS → (XE → SS → Prop) → Prop
  | [], s, K => K .normal s
  | st :: rest, s, K => guardP s st.guard
      (fun _ => exOp O P st.op s (fun v s' => chkP O (put st.dst v s') st.chk (exSteps O P rest (put st.dst v s') K)) K)
      (fun _ => exSteps O P rest (put st.dst .undef s) K)
def ex (O : Ops) (P : Program) : XC → SS → (XE → SS → Prop) → Prop
  | .skip, s, K => K .normal s
  | .ops l, s, K => exSteps O P l s K
  | .seq a b, s, K => ex O P a s (fun e s' => match e with
    | .normal => ex O P b s' K
    | .exit id => K (.exit id) s'
    | .ret => K .ret s'
    | .panic v => K (.panic v) s')
  | .cond c a b, s, K => condP (ev s c) (fun _ => ex O P a s K) (fun _ => ex O P b s K)
  | .block id b, s, K => ex O P b s (fun e s' => match e with
    | .normal => K .normal s'
    | .exit id' => if id' == id then K .normal s' else K (.exit id') s'
    | .ret => K .ret s'
    | .panic v => K (.panic v) s')
  | .loop b, s, K => WX P (.loop b) s K
  | .range f ps asg body, s, K => WX P (.range f ps asg body) s K
  | .exit id, s, K => K (.exit id) s
  | .ret, s, K => K .ret s
end Go.Sx
