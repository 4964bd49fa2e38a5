import Derived.Test.YtlclleihoampdaaEC
import Derived.RecoverIn
set_option linter.unusedVariables false
set_option linter.unusedSimpArgs false
namespace Go.Sx
open Go
def kdf (ks:List Nat):Nat→List SB→List SB
 |_,[]=>[]
 |i,B::l=>(if kbz i ks then .free else B)::kdf ks (i+1) l
theorem kgN (ks:List Nat):∀(l:List SB) (n i:Nat) (B:SB),(kdf ks n l)[i]?=some B→∃C,l[i]?=some C∧(B=C∨B=.free)
 |[],_,i,B,h=>by simp[kdf] at h
 |C::l,n,0,B,h=>by
  simp only[kdf,List.getElem?_cons_zero,Option.some.injEq] at h;refine⟨C,rfl,?_⟩
  split at h
  ·exact .inr h.symm
  ·exact .inl h.symm
 |C::l,n,i+1,B,h=>by
  simp only[kdf,List.getElem?_cons_succ] at h;obtain⟨D,h1,h2⟩:=kgN ks l (n+1) i B h;exact⟨D,by simpa using h1,h2⟩
theorem kdY (ks:List Nat):∀(l:List SB) (n:Nat),(kdf ks n l).length=l.length
 |[],_=>rfl
 |B::l,n=>by simp[kdf,kdY ks l]
theorem kiQ {P:Program} {f:Nat} {args:List SV} {H:List SB} {kU:SV→List SB→List Nat→Prop} (ks:List Nat) (h:Con P f args H (fun v H' R=>kU v (kdf ks 0 H') R)):Con P f args H kU:=by
 refine⟨h.go,fun σ w hok=>(h.out σ w hok).mono ?_⟩
 rintro e w' ⟨σ',v,H',R,k1,k2,k3,k4⟩;have hget:=kgN ks H' 0;have hown:∀{B C:SB},(B=C∨B=.free)→own B=true→own C=true:=by
  rintro B C (rfl|rfl) ho
  ·exact ho
  ·cases ho
 refine⟨σ',v,kdf ks 0 H',R,k1,k2,⟨⟨fun i p hi hp=>k3.lt i p (by rw[kdY] at hi;exact hi) hp,fun i j B C p q hij hB hC ho=>?_,fun i B hB=>?_,(fun l hl=>by cases hl),(fun l hl=>by cases hl)⟩,Cold.nil rfl⟩,
  ⟨k4.size,k4.os,k4.tape,k4.output,k4.far,by rw[kdY];exact k4.len,k4.names,k4.red,fun i B p hB ho=>?_,rfl⟩⟩
 ·obtain⟨B0,hB0,eB⟩:=hget i B hB;obtain⟨C0,hC0,eC⟩:=hget j C hC;exact k3.ne i j B0 C0 p q hij hB0 hC0 (ho.imp (hown eB) (hown eC))
 ·obtain⟨B0,hB0,eB⟩:=hget i B hB;rcases eB with rfl|rfl
  ·exact k3.blk i B hB0
  ·trivial
 ·obtain⟨B0,hB0,eB⟩:=hget i B hB;exact k4.own i B0 p hB0 (hown eB ho)
theorem kiR (k:IntKind) (a:Nat→Int) (b:Nat→SV) (i:Nat) (n:Int):kdF (fun m=>[.int k (a m),b m]) i 0 (.int k n)=fun m=>[.int k (qC a i n m),b m]:=by
 funext m;rw[jN,ja];split<;>rfl
theorem kiS (k:IntKind) (b:Nat→Int) (a:Nat→SV) (i:Nat) (n:Int):kdF (fun m=>[a m,.int k (b m)]) i 1 (.int k n)=fun m=>[a m,.int k (qC b i n m)]:=by
 funext m;rw[jN,ja];split<;>rfl
end Go.Sx
namespace Go.Sx
open Go
def qG (ks:List Nat):List (Nat×Ix):=ks.map fun k=>(k,.z)
def kdZ:Nat→List Nat→Nat→Bool
 |0,_,_=>true
 |n+1,k::ks,i=>if k==i then kdZ n ks (i+1) else false
 |_+1,[],_=>false
theorem qY:∀{n:Nat} {ks:List Nat} {i:Nat},kdZ n ks i=true→∀j,j<n→ks[j]?=some (i+j)
 |0,_,_,_,j,hj=>by omega
 |n+1,[],_,h,j,hj=>by simp[kdZ] at h
 | n+1,k::ks,i,h,j,hj=>by
  simp only[kdZ] at h;split at h
  ·rename_i hk;cases j with
   |zero=>simp at hk;simp[hk]
   |succ j=>
    have:=qY h j (by omega);simp only[List.getElem?_cons_succ,this,Option.some.injEq];omega
  ·cases h
def kfO:List Nat→Bool
 |[]=>true
 |k::ks=>if kbz k ks then false else kfO ks
theorem kfP {n:Nat}:∀{l:List Nat},kbz n l=false→n∉l
 |[],_=>by simp
 | m::l,h=>by
  simp only[kbz] at h;split at h
  ·cases h
  ·rename_i hne;simp only[beq_iff_eq] at hne;simp only[List.mem_cons,not_or];exact⟨hne,kfP h⟩
theorem kbT:∀{ks:List Nat},kfO ks=true→∀(i j:Nat) (a:Nat),ks[i]?=some a→ks[j]?=some a→i=j
 |[],_,i,j,a,hi,_=>by simp at hi
 | k::ks,h,i,j,a,hi,hj=>by
  simp only[kfO] at h;split at h
  ·cases h
  rename_i hm;have hm:=kfP (by simpa using hm);cases i with
  | zero=>
   cases j with
   |zero=>rfl
   |succ j=>
    simp at hi hj;subst hi
    exact(hm (List.mem_of_getElem? hj)).elim
  | succ i=>
   cases j with
   |zero=>
    simp at hi hj;subst hj
    exact(hm (List.mem_of_getElem? hi)).elim
   |succ j=>
    simp at hi hj
    rw[kbT h i j a hi hj]
def kk7 (ks:List Nat) (H':List SB):List Nat→List SB→Prop
 |[],[]=>True
 |k::l,B::H2=>H'[k]?=some (kaY (qG ks) 0 B)∧okB (qG ks) 0 B (kk7 ks H' l H2)
 |_,_=>False
theorem kcM {ks:List Nat} {H':List SB}:∀{l:List Nat} {H2:List SB},kk7 ks H' l H2→H2.length=l.length∧∀(i:Nat) (B:SB),H2[i]?=some B→∃k:Nat,l[i]?=some k∧H'[k]?=some (kaY (qG ks) 0 B)∧okB (qG ks) 0 B True
 |[],[],_=>⟨rfl,fun i B h=>by simp at h⟩
 |k::l,B::H2,h=>by
  obtain⟨h1,h2⟩:=h;obtain⟨h3,h4⟩:=khr h2;obtain⟨h5,h6⟩:=kcM h3;refine⟨by simp[h5],fun i B' hB'=>?_⟩
  cases i with
  |zero=>simp at hB';subst hB';exact⟨k,rfl,h1,h4⟩
  |succ i=>simp at hB';obtain⟨k',e1,e2⟩:=h6 i B' hB';exact⟨k',by simpa using e1,e2⟩
 |[],_::_,h=>h.elim
 |_::_,[],h=>h.elim
theorem kfQ {P:Program} {f:Nat} {args:List SV} {H:List SB} {kU:SV→List SB→List Nat→Prop} (ks:List Nat) (hk:kdZ H.length ks 0=true) (hd:kfO ks=true)
  (h:Con P f args H (fun v H' R=>∃v2 H2,v=ren (qG ks) 0 v2∧okV (qG ks) 0 v2=true∧kk7 ks H' ks H2∧kU v2 H2 R)):Con P f args H kU:=by
 refine⟨h.go,fun σ w hok=>(h.out σ w hok).mono ?_⟩
 rintro e w' ⟨σ',v,H',R,⟨v2,H2,rfl,hv,hpk,hP⟩,k2,k3,k4⟩;obtain⟨hlen,hB2⟩:=kcM hpk;have hrn:∀i k,ks[i]?=some k→rn (qG ks) 0 i=(k,.z):=fun i k hi=>by unfold rn qG;rw[List.getElem?_map,hi];rfl
 have hσ:∀i k,ks[i]?=some k→cut (qG ks) 0 σ' i=σ' k:=fun i k hi=>by
  unfold cut;rw[hrn i k hi]
  show(σ' k).map (fun p=>(p.1,p.2+0))=σ' k
  cases σ' k<;>rfl
 refine⟨cut (qG ks) 0 σ',v2,H2,R,hP,?_,⟨⟨fun i p hi hp=>?_,fun i j B C p q hij hB hC ho hp hq=>?_,fun i B hB=>?_,(fun l hl=>by cases hl),(fun l hl=>by cases hl)⟩,Cold.nil rfl⟩,
  ⟨k4.size,k4.os,k4.tape,k4.output,k4.far,?_,fun i hi hR=>?_,k4.red,fun i B p hB ho hp hlt=>?_,rfl⟩⟩
 ·rw[k2,qe (qG ks) 0 σ' _ (fun _=>rfl) v2 hv]
 ·obtain⟨B,hB⟩:∃B,H2[i]?=some B:=⟨_,List.getElem?_eq_getElem hi⟩;obtain⟨k,e1,e2,_⟩:=hB2 i B hB;rw[hσ i k e1] at hp;exact k3.lt k p (by have:=List.getElem?_eq_some_iff.1 e2;exact this.1) hp
 ·obtain⟨k,e1,e2,_⟩:=hB2 i B hB;obtain⟨k',e1',e2',_⟩:=hB2 j C hC;rw[hσ i k e1] at hp;rw[hσ j k' e1'] at hq;refine k3.ne k k' _ _ p q (fun e=>hij ?_) e2 e2' (by rw[kan,kan];exact ho) hp hq
  subst e;exact kbT hd i j k e1 e1'
 ·obtain⟨k,e1,e2,e3⟩:=hB2 i B hB;rw[hσ i k e1];exact(kcc (fun _=>rfl) e3).1 (k3.blk k _ e2)
 ·have:=qY hk;show H.length≤H2.length
  rw[hlen];rcases Nat.lt_or_ge ks.length H.length with hlt|hge
  ·have:=this ks.length hlt;simp at this
  ·exact hge
 ·have hi:i<H.length:=hi;have h1:=qY hk i hi;rw[Nat.zero_add] at h1;rw[hσ i i h1];exact k4.names i hi hR
 ·obtain⟨k,e1,e2,_⟩:=hB2 i B hB;rw[hσ i k e1] at hp;exact k4.own k _ p e2 (by rw[kan];exact ho) hp hlt
end Go.Sx
namespace Go.Sx
open Go
theorem kG {P:Program} {f:Nat} {args:List SV} {H:List SB} {kU:SV→List SB→List Nat→Prop}
  (h:Con P f args H (fun v H' R=>∃ks v2 H2,kdZ H.length ks 0=true∧kfO ks=true∧v=ren (qG ks) 0 v2∧okV (qG ks) 0 v2=true∧kk7 ks H' ks H2∧kU v2 H2 R)):Con P f args H kU:=by
 refine⟨h.go,fun σ w hok=>(h.out σ w hok).mono ?_⟩
 rintro e w' ⟨σ',v,H',R,⟨ks,v2,H2,hk,hd,rfl,hv,hpk,hP⟩,k2,k3,k4⟩;obtain⟨hlen,hB2⟩:=kcM hpk;have hrn:∀i k,ks[i]?=some k→rn (qG ks) 0 i=(k,.z):=fun i k hi=>by unfold rn qG;rw[List.getElem?_map,hi];rfl
 have hσ:∀i k,ks[i]?=some k→cut (qG ks) 0 σ' i=σ' k:=fun i k hi=>by
  unfold cut;rw[hrn i k hi]
  show(σ' k).map (fun p=>(p.1,p.2+0))=σ' k
  cases σ' k<;>rfl
 refine⟨cut (qG ks) 0 σ',v2,H2,R,hP,?_,⟨⟨fun i p hi hp=>?_,fun i j B C p q hij hB hC ho hp hq=>?_,fun i B hB=>?_,(fun l hl=>by cases hl),(fun l hl=>by cases hl)⟩,Cold.nil rfl⟩,
  ⟨k4.size,k4.os,k4.tape,k4.output,k4.far,?_,fun i hi hR=>?_,k4.red,fun i B p hB ho hp hlt=>?_,rfl⟩⟩
 ·rw[k2,qe (qG ks) 0 σ' _ (fun _=>rfl) v2 hv]
 ·obtain⟨B,hB⟩:∃B,H2[i]?=some B:=⟨_,List.getElem?_eq_getElem hi⟩;obtain⟨k,e1,e2,_⟩:=hB2 i B hB;rw[hσ i k e1] at hp;exact k3.lt k p (by have:=List.getElem?_eq_some_iff.1 e2;exact this.1) hp
 ·obtain⟨k,e1,e2,_⟩:=hB2 i B hB;obtain⟨k',e1',e2',_⟩:=hB2 j C hC;rw[hσ i k e1] at hp;rw[hσ j k' e1'] at hq;refine k3.ne k k' _ _ p q (fun e=>hij ?_) e2 e2' (by rw[kan,kan];exact ho) hp hq
  subst e;exact kbT hd i j k e1 e1'
 ·obtain⟨k,e1,e2,e3⟩:=hB2 i B hB;rw[hσ i k e1];exact(kcc (fun _=>rfl) e3).1 (k3.blk k _ e2)
 ·have:=qY hk;show H.length≤H2.length
  rw[hlen];rcases Nat.lt_or_ge ks.length H.length with hlt|hge
  ·have:=this ks.length hlt;simp at this
  ·exact hge
 ·have hi:i<H.length:=hi;have h1:=qY hk i hi;rw[Nat.zero_add] at h1;rw[hσ i i h1];exact k4.names i hi hR
 ·obtain⟨k,e1,e2,_⟩:=hB2 i B hB;rw[hσ i k e1] at hp;exact k4.own k _ p e2 (by rw[kan];exact ho) hp hlt
end Go.Sx
namespace Go.Sx
open Go
def krJ (P:Program):Code→Option (XC×XC×XC×Nat×Nat×Nat×Nat)
 | .seq c0 (.seq c1 (.seq (.region _ ops false) (.seq c3 .ret)))=>
  match ops.toList with
  | [m,d]=>match m.op,d.op with
   | .makeFunc (.func g) first cap,.defer c=>match m.dst,m.guard,d.dst,d.guard,first.toList,cap.toList with
    | some j,none,none,none,[],[.tmp a,.tmp b]=>match c.callee,c.args.toList with
     |.value (.tmp j'),[]=>if j'==j then match kB P c0,kB P c1,kB P c3 with
      |some x0,some x1,some x3=>some (x0,x1,x3,g,j,a,b)
      |_,_,_=>none
      else none
     |_,_=>none
    |_,_,_,_,_,_=>none
   |_,_=>none
  |_=>none
 |_=>none
structure FnD (P:Program) (f:Nat) (x0 x1 x3:XC) (g j a b n:Nat) (rs:List Nat):Prop where
 go:∀(xs:Array Value) (w:World),(callFunc f xs).run P w=.ok (.enter f xs) w
 has:∃fn c,P.funcs[f]?=some fn∧fn.body=some c∧krJ P c=some (x0,x1,x3,g,j,a,b)∧fn.ntmps=n∧kfD P fn.results.toList=some rs
theorem FnD.of {P:Program} {f:Nat} {x0 x1 x3:XC} {g j a b n:Nat} {rs:List Nat} {fn:Func} (go:∀(xs:Array Value) (w:World),(callFunc f xs).run P w=.ok (.enter f xs) w) (hf:P.funcs[f]?=some fn)
  (hc:fn.body.bind (krJ P)=some (x0,x1,x3,g,j,a,b)) (hn:fn.ntmps=n) (hr:kfD P fn.results.toList=some rs):FnD P f x0 x1 x3 g j a b n rs:=by
 refine⟨go,?_⟩
 cases hb:fn.body with
 |none=>rw[hb] at hc;cases hc
 |some c=>rw[hb] at hc;exact⟨fn,c,hf,hb,hc,hn,hr⟩
end Go.Sx
namespace Go.Sx
open Go
def krK:Code→Option Nat
 | .seq (.region _ r0 false) (.seq (.region _ r1 false) (.cond (.tmp e) _ .skip))=>
  match r0.toList,r1.toList with
  | [o0,o1],[o2,o3]=>match o0.op,o1.op,o2.op,o3.op with
   |.call c,.assign (.tmp a'),.move (.tmp b'),.binOp .neq ty (.tmp d') (.const .nilIface) _=>match c.callee,c.args.toList,o0.dst,o1.dst,o2.dst,o3.dst,o0.guard,o1.guard,o2.guard,o3.guard with
    |.builtin .recover,[],some a,some b,some d,some e',none,none,none,none=>if a'==a&&b'==b&&d'==d&&e'==e&&(ltB a 10&&ltB b 10&&ltB d 10&&ltB e 10) then some ty else none
    |_,_,_,_,_,_,_,_,_,_=>none
   |_,_,_,_=>none
  |_,_=>none
 |_=>none
end Go.Sx
namespace Go.Sx
open Go Go.ChangeShapes Go.WideShapes Go.RowKit Go.Deep
variable {H:Type} {enc:TypeId×Value→H} {P:Program}
end Go.Sx
namespace Go.Sx
open Go
def krL (P:Program) (σ:Names) (H:List SB) (w:World) (kU Pan:SV→List SB→List Nat→Prop):Ending→World→Prop:=fun e w'=>
 ∃σ' v H' R,(kU v H' R∧e=.returned (den σ' v)∨Pan v H' R∧e=.panicked [{ v:=den σ' v,recovered:=false }])∧Ok P σ' (small H' R) w'∧Step σ (small H []) w σ' (small H' R) w'
structure ConX (P:Program) (f:Nat) (args:List SV) (H:List SB) (kU Pan:SV→List SB→List Nat→Prop):Prop where
 go:∀(xs:Array Value) (w:World),(callFunc f xs).run P w=.ok (.enter f xs) w
 out:∀σ w,Ok P σ (small H []) w→CallsIn (FR P none) 0 P f (denL σ args).toArray w (krL P σ H w kU Pan)
theorem Con.x {P:Program} {f:Nat} {args:List SV} {H:List SB} {kU Pan:SV→List SB→List Nat→Prop} (c:Con P f args H kU):ConX P f args H kU Pan:=
 ⟨c.go,fun σ w hok=>(c.out σ w hok).mono fun _ _ ⟨σ',v,H',R,hP,he,h1,h2⟩=>⟨σ',v,H',R,.inl ⟨hP,he⟩,h1,h2⟩⟩
theorem ConX.mono {P:Program} {f:Nat} {args:List SV} {H:List SB} {kU Post' Pan Pan':SV→List SB→List Nat→Prop} (c:ConX P f args H kU Pan) (h:∀v H' R,kU v H' R→Post' v H' R) (h2:∀v H' R,Pan v H' R→Pan' v H' R):ConX P f args H Post' Pan':=
 ⟨c.go,fun σ w hok=>(c.out σ w hok).mono fun _ _ ⟨σ',v,H',R,hP,h3,h4⟩=>⟨σ',v,H',R,hP.elim (fun k=>.inl ⟨h _ _ _ k.1,k.2⟩) (fun k=>.inr ⟨h2 _ _ _ k.1,k.2⟩),h3,h4⟩⟩
section
variable {P:Program} {s:SS}
end
end Go.Sx
namespace Go.Sx
open Go
def LandsS (P:Program) (σ:Names) (s:SS) (w:World) (K:XE→SS→Prop) (Q:Exit→Act→World→Prop):Prop:=
 (∀σ' s' w',K .normal s'→Ok P σ' s' w'→Step σ s w σ' s' w'→Q .normal (act σ' s') w') ∧
 ∀v σ' s' w',K (.panic v) s'→Ok P σ' s' w'→Step σ s w σ' s' w'→Q (.panic [{ v:=den σ' v,recovered:=false }]) (act σ' s') w'
section
variable {P:Program} {σ:Names} {s:SS} {w:World} {K:XE→SS→Prop} {Q:Exit→Act→World→Prop}
theorem LandsS.later {σ':Names} {s':SS} {w':World} (h:LandsS P σ s w K Q) (hst:Step σ s w σ' s' w'):LandsS P σ' s' w' K Q:=
 ⟨fun σ'' s'' w'' hK hok hst'=>h.1 σ'' s'' w'' hK hok (hst.trans hst'),fun v σ'' s'' w'' hK hok hst'=>h.2 v σ'' s'' w'' hK hok (hst.trans hst')⟩
end
def kqr:Code→Option (Nat×Nat×Nat×Nat×Code)
 | .seq (.region _ r0 false) (.seq (.region _ r1 false) (.cond (.tmp e) x .skip))=>
  match r0.toList,r1.toList with
  |[o0,o1],[o2,_]=>match o0.dst,o1.dst,o2.dst with
   |some a,some b,some d=>some (a,b,d,e,x)
   |_,_,_=>none
  |_,_=>none
 |_=>none
structure RecFn (P:Program) (g:Nat) (xA:XC) (ty a b d e n:Nat):Prop where
 has:∃fn c x,P.funcs[g]?=some fn∧fn.body=some c∧krK c=some ty∧kqr c=some (a,b,d,e,x)∧kB P x=some xA∧fn.results=#[]∧fn.ntmps=n∧10≤n
 gd:∀t v dd w,(eqGuard .neq ty (.tmp dd) (.const .nilIface) (.iface t v) .nilIface).run P w=.ok () w
 ne:∀t v w,(binOp .neq ty (.iface t v) .nilIface).run P w=.ok (.bool true) w
theorem RecFn.of {P:Program} {g:Nat} {xA:XC} {ty a b d e n:Nat} {fn:Func} (hf:P.funcs[g]?=some fn) (hc:fn.body.bind krK=some ty) (ha:(fn.body.bind kqr).bind (fun q=>(kB P q.2.2.2.2).map fun y=>(q.1,q.2.1,q.2.2.1,q.2.2.2.1,y))=some (a,b,d,e,xA))
  (hr:fn.results=#[]) (hn:fn.ntmps=n) (h10:10≤n) (gd:∀t v dd w,(eqGuard .neq ty (.tmp dd) (.const .nilIface) (.iface t v) .nilIface).run P w=.ok () w)
  (ne:∀t v w,(binOp .neq ty (.iface t v) .nilIface).run P w=.ok (.bool true) w):RecFn P g xA ty a b d e n:=by
 refine⟨?_,gd,ne⟩
 cases hb:fn.body with
 |none=>rw[hb] at hc;cases hc
 | some c=>
  rw[hb] at hc ha;simp only[Option.bind_some] at hc ha;cases hq:kqr c with
  |none=>rw[hq] at ha;cases ha
  |some q=>
   obtain⟨a',b',d',e',x⟩:=q;rw[hq] at ha;simp only[Option.bind_some,Option.map_eq_some_iff] at ha;obtain⟨y,hy,he⟩:=ha;simp only[Prod.mk.injEq] at he;obtain⟨rfl,rfl,rfl,rfl,rfl⟩:=he;exact⟨fn,c,x,hf,hb,hc,hq,hy,hr,hn,h10⟩
end Go.Sx
namespace Go.Sx
open Go
def kn3:Code→Bool
 |.seq _ (.seq _ (.seq _ (.seq (.region _ _ false) .ret)))=>true
 |_=>false
def LastPlain (P:Program) (f:Nat):Prop:=∃fn c,P.funcs[f]?=some fn∧fn.body=some c∧kn3 c=true
theorem LastPlain.of {P:Program} {f:Nat} {fn:Func} (hf:P.funcs[f]?=some fn) (hc:fn.body.map kn3=some true):LastPlain P f:=by
 cases hb:fn.body with
 |none=>rw[hb] at hc;cases hc
 |some c=>rw[hb] at hc;exact⟨fn,c,hf,hb,by simpa using hc⟩
end Go.Sx
namespace Go.Sx
open Go
end Go.Sx
namespace Go.Sx
open Go
theorem YieldX.mono {P:Program} {l:Nat} {args:List SV} {s:SS} {K K':SV→SS→Prop} {X X':XE→SS→Prop} (hK:∀v s',K v s'→K' v s') (hX:∀v s',X (.panic v) s'→X' (.panic v) s') (h:YieldX P l args s K X):YieldX P l args s K' X':=by
 refine⟨fun σ w hok=>?_⟩
 obtain⟨fn,tmps,asg,body,h1,hF,h2⟩:=h.out σ w hok;refine⟨fn,tmps,asg,body,h1,hF,fun c cs hr=>?_⟩
 obtain⟨e,w',hR,hs⟩:=h2 c cs hr;refine⟨e,w',?_,hs⟩
 obtain⟨σ',s',k1,k2,k3,k4⟩:=hR;refine⟨σ',s',k1,k2,k3,?_⟩
 cases e with
 |returned v=>obtain⟨v',k5,k6⟩:=k4;exact⟨v',hK _ _ k5,k6⟩
 |panicked ch=>obtain⟨v',k5,k6⟩:=k4;exact⟨v',hX _ _ k5,k6⟩
 |outgrown=>exact k4
theorem YieldX.gen {P:Program} {l:Nat} {args:List SV} {s:SS} {K:SV→SS→Prop} {X:XE→SS→Prop} (h:YieldX P l (genL args) s K X):YieldX P l args s K X:=by
 refine⟨fun σ w hok=>?_⟩
 have:=h.out σ w hok
 rwa [den_genL] at this
end Go.Sx
namespace Go.Sx
open Go
section
variable {O:Ops} {P:Program} {s:SS}
theorem WX.mono {x:XC} {K K':XE→SS→Prop} (hK:∀e s',K e s'→K' e s') (h:WX P x s K):WX P x s K':=
 ⟨fun c hc σ w hok=>wpIn_mono (h.out c hc σ w hok) fun _ _ _ ⟨e',σ',s',k1,k2⟩=>⟨e',σ',s',hK _ _ k1,k2⟩⟩
theorem CallX.mono2 {g:Nat} {args:List SV} {K K':SV→SS→Prop} {X X':XE→SS→Prop} (hK:∀v s',K v s'→K' v s') (hX:∀v s',X (.panic v) s'→X' (.panic v) s') (h:CallX P g args s K X):CallX P g args s K' X':=by
 refine⟨h.go,fun σ w hok=>(h.out σ w hok).mono ?_⟩
 rintro e w' ⟨σ',s',h1,h2,h3,h4⟩;refine⟨σ',s',h1,h2,h3,?_⟩
 cases e with
 |returned v=>obtain⟨v',k1,k2⟩:=h4;exact⟨v',hK _ _ k1,k2⟩
 |panicked ch=>obtain⟨v',k1,k2⟩:=h4;exact⟨v',hX _ _ k1,k2⟩
 |outgrown=>exact h4
theorem kki {o:XOp} {K K':SV→SS→Prop} {X X':XE→SS→Prop} (hK:∀v s',K v s'→K' v s') (hX:∀v s',X (.panic v) s'→X' (.panic v) s') (h:kS O P o s K X):kS O P o s K' X':=by
 cases o
 case call f args=>
  simp only[kS] at h ⊢
  split at h
  ·exact CallX.mono2 hK hX h
  ·exact YieldX.mono hK hX h
  ·exact h
 case icall nm x args=>
  simp only[kS] at h ⊢
  split at h
  ·obtain⟨g,hM,h⟩:=h.out;exact⟨g,hM,CallX.mono2 hK hX h⟩
  ·exact h
 case pnc x=>
  simp only[kS] at h ⊢
  split at h
  ·exact hX _ _ h
  ·exact h
 all_goals exact kiP (X:=X) hK h
theorem kgO {o:XOp} {K K':SV→SS→Prop} {X X':XE→SS→Prop} (hK:∀v s',K v s'→K' v s') (hX:∀v s',X (.panic v) s'→X' (.panic v) s') (h:kff O P o s K X):kff O P o s K' X':=by
 unfold kff at h ⊢
 split at h
 ·exact kiN (fun v=>hK v _) h
 ·exact kiO (fun v=>hK v _) h
 ·exact kki hK hX h
theorem kbk:∀{l:List qq} {s:SS} {K K':XE→SS→Prop},(∀e s',K e s'→K' e s')→qS O P l s K→qS O P l s K'
 |[],_,_,_,hK,h=>hK _ _ h
 |st::rest,s,K,K',hK,h=>by
  unfold qS at h ⊢
  exact kew (kgO (fun v s'=>kdX (kbk hK)) (fun v s'=>hK _ _)) (kfN (kbk hK)) h
theorem kbU:∀{t:XT} {s:SS} {K K':XE→SS→Prop},(∀e s',K e s'→K' e s')→exT O P t s K→exT O P t s K'
 |.fin,_,_,_,hK,h=>hK _ _ h
 |.step st t,s,K,K',hK,h=>by
  unfold exT at h ⊢
  exact kew (kgO (fun v s'=>kdX (kbU hK)) (fun v s'=>hK _ _)) (kfN (kbU hK)) h
 |.both a b,s,K,K',hK,h=>by
  unfold exT at h ⊢
  exact⟨kbU hK h.1,kbU hK h.2⟩
theorem kbl:∀{x:XC} {s:SS} {K K':XE→SS→Prop},(∀e s',K e s'→K' e s')→ex O P x s K→ex O P x s K'
 |.skip,_,_,_,hK,h=>hK _ _ h
 |.ops l,_,_,_,hK,h=>kbk hK h
 |.tree t,_,_,_,hK,h=>kbU hK h
 |.seq a b,s,K,K',hK,h=>by
  unfold ex at h ⊢
  refine kbl (fun e s' h=>?_) h
  cases e with
  |normal=>exact kbl hK h
  |_=>exact hK _ _ h
 |.cond c a b,s,K,K',hK,h=>by
  unfold ex at h ⊢
  exact kcJ (kbl hK) (kbl hK) h
 | .block id b,s,K,K',hK,h=>by
  unfold ex at h ⊢
  refine kbl (fun e s' h=>?_) h
  cases e with
  |exit id'=>
   simp only[kjT] at h ⊢
   split at h
   ·rename_i he;rw[if_pos he];exact hK _ _ h
   ·rename_i he;rw[if_neg he];exact hK _ _ h
  |_=>exact hK _ _ h
 |.loop b,s,K,K',hK,h=>WX.mono hK h
 |.scope b,s,K,K',hK,h=>by
  unfold ex at h ⊢
  exact kbl hK h
 |.range f ps a b,s,K,K',hK,h=>WX.mono hK h
 |.exit id,_,_,_,hK,h=>hK _ _ h
 |.ret,_,_,_,hK,h=>hK _ _ h
 |.bad,_,_,_,_,h=>h
def unr (O:Ops) (P:Program) (b:XC) (K:XE→SS→Prop):Nat→SS→Prop
 |0,_=>False
 |n+1,s=>ex O P b s (kfg (unr O P b K n) K)
theorem WX.unr {b:XC} {K:XE→SS→Prop} (n:Nat) (hw:Words O) (hm:P.follows .mixedOrders=true) (h:unr O P b K n s):WX P (.loop b) s K:=by
 refine kdU hw hm (fun m s'=>Sx.unr O P b K m s') (Cv.here ⟨n,h⟩) ?_
 intro m s' hJ;cases m with
 |zero=>exact hJ.elim
 |succ m=>
  refine kbl (fun e s'' h=>?_) hJ
  cases e with
  |normal=>exact Cv.here ⟨m,Nat.lt_succ_self m,h⟩
  |_=>exact h
end
section
variable {P:Program} {s:SS} {S:SS→Prop} {n0:Nat}
def nilTA (j sz t:Nat) (f:Nat→List SV) (s:SS):SS:={ s with t:=s.t.set j (.slice s.h.length .z sz 0 0),h:=s.h++[.bufA t sz 0 f 0] }
theorem kn4 (σ:Names) (n sz:Nat):den (more σ n none) (.slice n .z sz 0 0)=den (more σ n none) (.val (.slice none 0 0)):=by simp[den,more]
theorem Cv.nilTA (j sz t:Nat) (f:Nat→List SV) (hat:khs j s=true) (hsc:scS s True) (h:Cv P n0 (nilTA j sz t f s) S):Cv P n0 s S:=by
 refine⟨fun σ0 s0 w0 σ w hn hok hst=>?_⟩
 obtain⟨h1,h2,h3⟩:=hok.new (B:=.bufA t sz 0 f 0) (p:=none) hsc ⟨Nat.le_refl _,rfl,rfl,rfl,fun _ _=>rfl⟩ (fun q hq=>by cases hq) (.inl ⟨rfl,rfl,rfl⟩);unfold khs at hat;split at hat
 rotate_left
 ·cases hat
 rename_i v hv;have hv':=kdb hat;subst hv';obtain⟨σ2,s2,k1,k2,k3,k4,k5⟩:=h.out σ0 s0 w0 (more σ s.h.length none) w hn ⟨⟨h1.lt,h1.ne,h1.blk,h1.marks,h1.rnd⟩,⟨h1.cold.there,h1.cold.apart⟩⟩
  (hst.trans ⟨h2.size,h2.os,h2.tape,h2.output,h2.far,h2.len,h2.names,h2.red,h2.own,h2.rd⟩)
 refine⟨σ2,s2,k1,k2,k3,k4.trans ?_,fun hl i hi=>(k5 (by simp[Sx.nilTA];omega) i hi).trans (jo (by omega))⟩
 rw[←h3];unfold act;simp only[Sx.nilTA,alloc];rw[kaZ hv (kn4 σ s.h.length sz)]
theorem Cv.intsB (b n:Nat) {t:Nat} {k:IntKind} {l:List Int} (hb:s.h[b]?=some (.ints t k l)) (hn:l.length=n) (h:Cv P n0 { s with h:=s.h.set b (.buf t k l n) } S):Cv P n0 s S:=
 Cv.blockEq b (.ints t k l) (.buf t k l n) hb rfl rfl rfl (fun _ _ _ ⟨g,h1,h2⟩=>.inr ⟨g,[],h1,by simpa using h2,by simp[hn]⟩) h
theorem Cv.rowsEq (b:Nat) {t sz len c:Nat} {f:Nat→List SV} (f':Nat→List SV) (hb:s.h[b]?=some (.bufA t sz len f c)) (he:∀i,i<len→genL (f' i)=genL (f i)) (h:Cv P n0 { s with h:=s.h.set b (.bufA t sz len f' c) } S):Cv P n0 s S:=by
 refine Cv.blockEq b (.bufA t sz len f c) (.bufA t sz len f' c) hb rfl rfl rfl ?_ h
 rintro σ p w (h0|⟨g,cs,h1,h2,h3,h3',h4⟩)
 ·exact .inl h0
 refine .inr ⟨g,cs,h1,h2,h3,h3',fun i hi=>?_⟩
 obtain⟨h5,h6⟩:=h4 i hi;have e:denL σ (f' i)=denL σ (f i):=by rw[←den_genL,he i hi,den_genL]
 have el:(f' i).length=(f i).length:=by rw[←jJ σ,e,jJ]
 refine⟨by rw[el];exact h5,fun j v hv=>?_⟩
 have e2:=congrArg (fun l=>l[j]?) e;simp only[jh,hv,Option.map_some] at e2;cases hf:(f i)[j]? with
 |none=>rw[hf] at e2;cases e2
 |some u=>
  rw[hf] at e2;simp only[Option.map_some,Option.some.injEq] at e2;rw[e2];exact h6 j u hf
end
end Go.Sx
namespace Go.Sx
open Go
theorem Cv.slotEq {P:Program} {n0:Nat} {s:SS} {S:SS→Prop} (j:Nat) {v:SV} (v':SV) (hv:s.t[j]?=some v) (he:∀σ,den σ v'=den σ v) (h:Cv P n0 { s with t:=s.t.set j v' } S):Cv P n0 s S:=by
 refine⟨fun σ0 s0 w0 σ w hn hok hst=>?_⟩
 have ha:act σ { s with t:=s.t.set j v' }=act σ s:=by
  unfold act;rw[kaZ hv (he σ)]
 obtain⟨σ2,s2,h1,h2,h3,h4,h5⟩:=h.out σ0 s0 w0 σ w hn ⟨⟨hok.lt,hok.ne,hok.blk,hok.marks,hok.rnd⟩,⟨hok.cold.there,hok.cold.apart⟩⟩
  ⟨hst.size,hst.os,hst.tape,hst.output,hst.far,hst.len,hst.names,hst.red,hst.own,hst.rd⟩
 exact⟨σ2,s2,h1,h2,h3,h4.trans ha,h5⟩
end Go.Sx
namespace Go.Sx
open Go
def qP:Nat→List SB→List SB
 |_,[]=>[]
 |0,B::l=>(match B with|.ints t k ls=>.buf t k ls ls.length|B=>B)::l
 |n+1,B::l=>B::qP n l
theorem kfR:∀(n:Nat) (l:List SB) (i:Nat) (B:SB),(qP n l)[i]?=some B→∃C,l[i]?=some C∧(B=C∨∃t k ls,C=.ints t k ls∧B=.buf t k ls ls.length)
 |_,[],i,B,h=>by simp[qP] at h
 |0,C::l,0,B,h=>by
  simp only[qP,List.getElem?_cons_zero,Option.some.injEq] at h ⊢
  refine⟨C,rfl,?_⟩
  split at h
  ·exact .inr ⟨_,_,_,rfl,h.symm⟩
  ·exact .inl h.symm
 |0,C::l,i+1,B,h=>by
  simp only[qP,List.getElem?_cons_succ] at h ⊢
  exact⟨B,h,.inl rfl⟩
 |n+1,C::l,0,B,h=>by
  simp only[qP,List.getElem?_cons_zero,Option.some.injEq] at h ⊢
  exact⟨C,rfl,.inl h.symm⟩
 |n+1,C::l,i+1,B,h=>by
  simp only[qP,List.getElem?_cons_succ] at h ⊢
  exact kfR n l i B h
theorem kcN:∀(n:Nat) (l:List SB),(qP n l).length=l.length
 |_,[]=>by simp[qP]
 |0,B::l=>by simp[qP]
 |n+1,B::l=>by simp[qP,kcN n l]
theorem kiT {P:Program} {f:Nat} {args:List SV} {H:List SB} {kU:SV→List SB→List Nat→Prop} (n:Nat) (h:Con P f args H (fun v H' R=>kU v (qP n H') R)):Con P f args H kU:=by
 refine⟨h.go,fun σ w hok=>(h.out σ w hok).mono ?_⟩
 rintro e w' ⟨σ',v,H',R,k1,k2,k3,k4⟩;have hget:=kfR n H';refine⟨σ',v,qP n H',R,k1,k2,⟨⟨fun i p hi hp=>k3.lt i p (by simpa [kcN] using hi) hp,fun i j B C p q hij hB hC ho=>?_,fun i B hB=>?_,(fun l hl=>by cases hl),(fun l hl=>by cases hl)⟩,Cold.nil rfl⟩,
  ⟨k4.size,k4.os,k4.tape,k4.output,k4.far,by simpa [kcN] using k4.len,k4.names,k4.red,fun i B p hB hoB=>?_,rfl⟩⟩
 ·obtain⟨B',hB',e1⟩:=hget i B hB;obtain⟨C',hC',e2⟩:=hget j C hC;have o1:own B=own B':=by rcases e1 with rfl|⟨t,k,ls,rfl,rfl⟩<;>rfl
  have o2:own C=own C':=by rcases e2 with rfl|⟨t,k,ls,rfl,rfl⟩<;>rfl
  rw[o1,o2] at ho;exact k3.ne i j B' C' p q hij hB' hC' ho
 ·obtain⟨B',hB',e1⟩:=hget i B hB;rcases e1 with rfl|⟨t,k,ls,rfl,rfl⟩
  ·exact k3.blk i B hB'
  ·obtain⟨g,h1,h2⟩:=k3.blk i _ hB';exact .inr ⟨g,[],h1,by simpa using h2,by simp⟩
 ·obtain⟨B',hB',e1⟩:=hget i B hB;have o1:own B=own B':=by rcases e1 with rfl|⟨t,k,ls,rfl,rfl⟩<;>rfl
  rw[o1] at hoB;exact k4.own i B' p hB' hoB
end Go.Sx
namespace Go.Sx
open Go
end Go.Sx
namespace Go.Sx
open Go Go.ChangeShapes Go.WideShapes Go.RowKit Go.Deep
section
variable {H:Type} {enc:TypeId×Value→H} {P:Program}
end
end Go.Sx
namespace Go.Sx
open Go
end Go.Sx
namespace Go.Sx
open Go
theorem kpg (a:Value) (xs:Array Value):(#[a]++xs).extract 1 (#[a]++xs).size=xs:=by
 apply Array.ext'
 simp
theorem kk8 (a:Value) (xs:Array Value):(#[a]++xs)[0]?=some a:=by
 rw[Array.getElem?_append_left (by simp)];rfl
theorem MethIs.of {P:Program} {nm:String} {t g:Nat} (h:∀(v:Value) (w:World),(method (P.types.size+Made.depth) t v nm).run P w=.ok (g,v) w)
  (go:∀(xs:Array Value) (w:World),(callFunc g xs).run P w=.ok (.enter g xs) w):MethIs P nm t g:=by
 refine⟨fun v xs w=>?_,fun v xs w f hf=>?_⟩
 ·have e0:(#[Value.iface t v]++xs)[0]?=some (.iface t v):=kk8 _ _;simp only[invoke,e0,kpg,callMethod,Sem.run_bind];have hp:(program:Sem Program).run P w=.ok P w:=rfl;rw[hp];simp only[Result.andThen_ok,h,go]
 ·have e0:(#[Value.iface t v]++xs)[0]?=some (.iface t v):=kk8 _ _;simp only[Target.leads,e0,h,Option.some.injEq] at hf;exact hf.symm
end Go.Sx
namespace Go.Sx
open Go
inductive XW where
 |more (x:XC) (r:XW)
 |last (i j:Nat) (k:IntKind) (n:Int) (x:XC)
def ksK:Code→Option (Nat×Nat×IntKind×Int)
 | .region _ ops false=>match ops.toList with
  | [m,d]=>match m.op,d.op with
   |.move (.tmp i),.defer ca=>match m.dst,m.guard,ca.callee,ca.args.toList,d.dst,d.guard with
    |some j,none,.value (.tmp j'),[.const (.int k n)],none,none=>if j'==j then some (i,j,k,n) else none
    |_,_,_,_,_,_=>none
   |_,_=>none
  |_=>none
 |_=>none
def kqs (P:Program):Code→Option XW
 | .seq a b=>match ksK a with
  |some (i,j,k,n)=>(kB P b).map (XW.last i j k n)
  |none=>match kB P a,kqs P b with
   |some x,some r=>some (.more x r)
   |_,_=>none
 |_=>none
structure FnW (P:Program) (f:Nat) (x:XW) (n:Nat) (rs:List Nat):Prop where
 go:∀(xs:Array Value) (w:World),(callFunc f xs).run P w=.ok (.enter f xs) w
 has:∃fn c,P.funcs[f]?=some fn∧fn.body=some c∧kqs P c=some x∧fn.ntmps=n∧kfD P fn.results.toList=some rs
theorem FnW.of {P:Program} {f:Nat} {x:XW} {n:Nat} {rs:List Nat} {fn:Func} (go:∀(xs:Array Value) (w:World),(callFunc f xs).run P w=.ok (.enter f xs) w) (hf:P.funcs[f]?=some fn)
  (hc:fn.body.bind (kqs P)=some x) (hn:fn.ntmps=n) (hr:kfD P fn.results.toList=some rs):FnW P f x n rs:=by
 refine⟨go,?_⟩
 cases hb:fn.body with
 |none=>rw[hb] at hc;cases hc
 |some c=>rw[hb] at hc;exact⟨fn,c,hf,hb,hc,hn,hr⟩
end Go.Sx
namespace Go.Sx
open Go
end Go.Sx
namespace Go.Sx
open Go
end Go.Sx
namespace Go.Sx
open Go
@[irreducible] def kbA (c:Nat→Option CB) (id:Nat) (B:CB):Nat→Option CB:=fun b=>if b=id then some B else c b
theorem ke1 (c:Nat→Option CB) (id:Nat) (B:CB) (b:Nat):kbA c id B b=if b=id then some B else c b:=by unfold kbA;rfl
theorem kfS (c:Nat→Option CB) (id:Nat) (B:CB):kbA c id B id=some B:=by rw[ke1,if_pos rfl]
theorem kiU {c:Nat→Option CB} {id b:Nat} {B C:CB} (h:c id=none) (hb:c b=some C):kbA c id B b=some C:=by
 rw[ke1,if_neg (fun e=>by subst e;rw[h] at hb;cases hb)];exact hb
def kqt (b id:Nat) (v:SV):SV:=
 match v with
 |.slice b' i sz len cap=>if b'==b then(match i with
  |.z=>.val (.slice (some ⟨id,0,none⟩) len cap)
  |.n m=>.val (.slice (some ⟨id,m*sz,none⟩) len cap)) else .slice b' i sz len cap
 |v=>v
def kkj (b id:Nat):List SV→List SV
 |[]=>[]
 |v::l=>kqt b id v::kkj b id l
theorem kn5 {b id:Nat} {σ:Names} (h:σ b=some (id,0)) (v:SV):den σ (kqt b id v)=den σ v:=by
 cases v<;>simp only[kqt]
 rename_i b' i sz len cap;split
 ·rename_i hb;obtain rfl:b'=b:=by simpa using hb
  cases i<;>simp[den,h,ixN]
 ·rfl
theorem kiV {b id:Nat} {σ:Names} (h:σ b=some (id,0)):∀l:List SV,denL σ (kkj b id l)=denL σ l
 |[]=>rfl
 |v::l=>by simp only[kkj,denL,kn5 h,kiV h l]
section
variable {P:Program} {s:SS} {S:SS→Prop} {n0:Nat}
theorem Cv.frz {b:Nat} {B:SB} {C:CB} {h':Nat→List SB} (hB:s.h[b]?=some B) (ho:own B=true)
  (hfr:∀σ w,holds P σ (σ b) w B→∃id,σ b=some (id,0)∧coldB w id C) (hlen:∀id,(h' id).length=s.h.length)
  (hh:∀(id i:Nat) (B':SB),(h' id)[i]?=some B'→∃B0,s.h[i]?=some B0∧(own B'=true→own B0=true∧i≠b)∧∀σ w,σ b=some (id,0)→holds P σ (σ i) w B0→holds P σ (σ i) w B')
  (hdf:∀(id i:Nat),s.h[i]?=some SB.defd→(h' id)[i]?=some SB.defd) (hlp:∀(id i:Nat) (B0:SB),s.h[i]?=some B0→jd B0=true→∃B',(h' id)[i]?=some B'∧jd B'=true)
  (h:∀id,s.c id=none→Cv P n0 { s with t:=kkj b id s.t,h:=h' id,c:=kbA s.c id C } S):Cv P n0 s S:=by
 refine⟨fun σ0 s0 w0 σ w hn hok hst=>?_⟩
 obtain⟨id,hσ,hcold⟩:=hfr σ w (hok.blk b B hB);have hnone:s.c id=none:=hok.cold.apart b B (id,0) hB ho hσ;have hok2:Ok P σ { s with t:=kkj b id s.t,h:=h' id,c:=kbA s.c id C } w:=by
  refine⟨⟨fun i p hi hp=>hok.lt i p (by simpa [hlen] using hi) hp,fun i j B1 C1 p q hij h1 h2 h3 hp hq=>?_,fun i B1 h1=>?_,fun l hl=>⟨(hok.marks l hl).1,hdf id l (hok.marks l hl).2⟩,fun l hl=>?_⟩,⟨fun k D hk=>?_,fun i B1 p h1 h2 hp=>?_⟩⟩
  ·obtain⟨B0,e1,e2,_⟩:=hh id i B1 h1;obtain⟨C0,f1,f2,_⟩:=hh id j C1 h2;exact hok.ne i j B0 C0 p q hij e1 f1 (h3.imp (fun h=>(e2 h).1) (fun h=>(f2 h).1)) hp hq
  ·obtain⟨B0,e1,_,e3⟩:=hh id i B1 h1;exact e3 σ w hσ (hok.blk i B0 e1)
  ·obtain⟨h1,B0,h2,h3⟩:=hok.rnd l hl;exact⟨h1,hlp id l B0 h2 h3⟩
  ·simp only[ke1] at hk;split at hk
   ·rename_i e;subst e;cases hk;exact hcold
   ·exact hok.cold.there k D hk
  ·obtain⟨B0,e1,e2,_⟩:=hh id i B1 h1;simp only[ke1];rw[if_neg (fun e=>hok.ne i b B0 B p (id,0) (e2 h2).2 e1 hB (.inr ho) hp hσ e)];exact hok.cold.apart i B0 p e1 (e2 h2).1 hp
 obtain⟨σ2,s2,k1,k2,k3,k4,k5⟩:=(h id hnone).out σ0 s0 w0 σ w hn hok2
  ⟨hst.size,hst.os,hst.tape,hst.output,hst.far,by simpa [hlen] using hst.len,hst.names,hst.red,fun i B1 p h1 h2=>(by obtain⟨B0,e1,e2,_⟩:=hh id i B1 h1;exact hst.own i B0 p e1 (e2 h2).1),hst.rd⟩
 refine⟨σ2,s2,k1,k2,k3,k4.trans ?_,fun hl=>k5 (by simpa [hlen] using hl)⟩
 unfold act;simp only[kiV hσ]
theorem qt {l:List SB} {b i:Nat} {B:SB} (hb:b<l.length):(l.set b B)[i]?=if b=i then some B else l[i]?:=by
 rw[List.getElem?_set];by_cases hi:b=i<;>simp[hi];subst hi;exact hb
theorem Cv.frz1 {b:Nat} {B:SB} {C:CB} (hB:s.h[b]?=some B) (ho:own B=true) (hd:B≠.defd) (hl:jd B=false)
  (hfr:∀σ w,holds P σ (σ b) w B→∃id,σ b=some (id,0)∧coldB w id C)
  (h:∀id,s.c id=none→Cv P n0 { s with t:=kkj b id s.t,h:=s.h.set b .free,c:=kbA s.c id C } S):Cv P n0 s S:=by
 have hbl:b<s.h.length:=(List.getElem?_eq_some_iff.1 hB).1;refine Cv.frz (h':=fun _=>s.h.set b .free) hB ho hfr (fun _=>by simp) (fun id i B' h1=>?_) (fun id i h1=>?_) (fun id i B0 h1 h2=>?_) h
 ·rw[qt hbl] at h1;split at h1
  ·rename_i e;subst e;cases h1;exact⟨B,hB,(fun h=>by cases h),fun _ _ _ _=>trivial⟩
  ·rename_i e;exact⟨B',h1,fun h=>⟨h,Ne.symm e⟩,fun _ _ _ h=>h⟩
 ·rw[qt hbl,if_neg (fun e=>by subst e;rw[hB] at h1;exact hd (Option.some.inj h1))];exact h1
 ·rw[qt hbl,if_neg (fun e=>by subst e;rw[hB] at h1;cases h1;rw[hl] at h2;cases h2)];exact⟨B0,h1,h2⟩
theorem Cv.frz2 {b j:Nat} {B:SB} {C:CB} {t sz len cap:Nat} {f:Nat→List SV} (F:Nat→Nat→List SV) (hB:s.h[b]?=some B) (ho:own B=true) (hd:B≠.defd) (hl:jd B=false)
  (hfr:∀σ w,holds P σ (σ b) w B→∃id,σ b=some (id,0)∧coldB w id C) (hbj:(b==j)=false) (hj:s.h[j]?=some (.bufA t sz len f cap)) (hF:∀σ id,σ b=some (id,0)→∀i,i<len→denL σ (F id i)=denL σ (f i))
  (h:∀id,s.c id=none→Cv P n0 { s with t:=kkj b id s.t,h:=(s.h.set b .free).set j (.bufA t sz len (F id) cap),c:=kbA s.c id C } S):Cv P n0 s S:=by
 have hbl:b<s.h.length:=(List.getElem?_eq_some_iff.1 hB).1;have hjl:j<(s.h.set b .free).length:=by simpa using(List.getElem?_eq_some_iff.1 hj).1
 have hbj':b≠j:=fun e=>by subst e;simp at hbj
 refine Cv.frz (h':=fun id=>(s.h.set b .free).set j (.bufA t sz len (F id) cap)) hB ho hfr (fun _=>by simp) (fun id i B' h1=>?_) (fun id i h1=>?_) (fun id i B0 h1 h2=>?_) h
 ·rw [qt hjl] at h1
  split at h1
  ·rename_i e;subst e;cases h1
   refine⟨_,hj,fun _=>⟨rfl,Ne.symm hbj'⟩,fun σ w hσ hh=>?_⟩
   rcases hh with hh|⟨g,cs,h1,h2,h3,h4,h5⟩
   ·exact .inl hh
   ·refine .inr ⟨g,cs,h1,h2,h3,h4,fun i hi=>?_⟩
    have hden:=hF σ id hσ i hi;have hlen:(F id i).length=(f i).length:=by have:=congrArg List.length hden;simpa [kw] using this
    refine⟨by rw[hlen];exact(h5 i hi).1,fun m v hv=>?_⟩
    have hm:m<(f i).length:=by rw[←hlen];exact(List.getElem?_eq_some_iff.1 hv).1
    have hden2:den σ v=den σ (f i)[m]:=by
     have h:=congrArg (fun l=>l[m]?) hden;simp only[kw,List.getElem?_map,hv,List.getElem?_eq_getElem hm,Option.map_some,Option.some.injEq] at h;exact h
    rw[hden2];exact(h5 i hi).2 m _ (List.getElem?_eq_getElem hm)
  ·rw[qt hbl] at h1;split at h1
   ·rename_i e;subst e;cases h1;exact⟨B,hB,(fun h=>by cases h),fun _ _ _ _=>trivial⟩
   ·rename_i e;exact⟨B',h1,fun h=>⟨h,Ne.symm e⟩,fun _ _ _ h=>h⟩
 ·rw[qt hjl,if_neg (fun e=>by subst e;rw[hj] at h1;cases h1),qt hbl,if_neg (fun e=>by subst e;rw[hB] at h1;exact hd (Option.some.inj h1))];exact h1
 ·rw[qt hjl,if_neg (fun e=>by subst e;rw[hj] at h1;cases h1;cases h2),qt hbl,if_neg (fun e=>by subst e;rw[hB] at h1;cases h1;rw[hl] at h2;cases h2)];exact⟨B0,h1,h2⟩
theorem kn6 {σ:Names} {w:World} {p:Option (Nat×Nat)} {t:Nat} {k:IntKind} {l:List Int} (h:holds P σ p w (.ints t k l)):∃id,p=some (id,0)∧coldB w id (.ints k l):=by
 obtain⟨g,h1,h2⟩:=h;exact⟨g,h1,t,[],by simpa using h2⟩
theorem kph {σ:Names} {w:World} {p:Option (Nat×Nat)} {t:Nat} {k:IntKind} {l:List Int} {c:Nat} (hl:0<l.length) (h:holds P σ p w (.buf t k l c)):∃id,p=some (id,0)∧coldB w id (.ints k l):=by
 rcases h with⟨_,h,_⟩|⟨g,l',h1,h2,_⟩
 ·subst h;simp at hl
 ·exact⟨g,h1,t,l',h2⟩
theorem kiW {σ:Names} {w:World} {p:Option (Nat×Nat)} {t sz len cap:Nat} {f:Nat→List SV} (F:Nat→List Value) (hl:0<len) (hF:∀σ i,i<len→denL σ (f i)=F i) (h:holds P σ p w (.bufA t sz len f cap)):∃id,p=some (id,0)∧coldB w id (.rows sz len F):=by
 rcases h with⟨_,h,_⟩|⟨g,cs,h1,h2,_,_,h5⟩
 ·omega
 ·refine⟨g,h1,t,cs,h2,fun i hi=>?_⟩
  have hden:=hF σ i hi;have hlen:(F i).length=(f i).length:=by rw[←hden];simp[kw]
  refine⟨by rw[hlen];exact(h5 i hi).1,fun m v hv=>?_⟩
  have hm:m<(f i).length:=by rw[←hlen];exact(List.getElem?_eq_some_iff.1 hv).1
  rw[←hden,jh,List.getElem?_eq_getElem hm] at hv;simp only[Option.map_some,Option.some.injEq] at hv;rw[←hv];exact(h5 i hi).2 m _ (List.getElem?_eq_getElem hm)
theorem Cv.warm (j sz:Nat) {id len cap:Nat} {B:SB} {C:CB} (hj:s.t[j]?=some (.val (.slice (some ⟨id,0,none⟩) len cap))) (hc:s.c id=some C) (hB:∀σ w,coldB w id C→holds P σ (some (id,0)) w B) (ho:own B=false) (hsc:scS s True)
  (h:Cv P n0 { s with t:=s.t.set j (.slice s.h.length .z sz len cap),h:=s.h++[B] } S):Cv P n0 s S:=by
 refine⟨fun σ0 s0 w0 σ w hn hok hst=>?_⟩
 have hcold:=hok.cold.there id C hc;unfold scS at hsc;split at hsc
 rotate_left
 ·exact hsc.elim
 rename_i hst';obtain⟨_,hsh⟩:=keY hsc;have hσ:∀i,i<s.h.length→more σ s.h.length (some (id,0)) i=σ i:=fun i hi=>jo hi
 have hget:∀i C,(s.h++[B])[i]?=some C→(i<s.h.length∧s.h[i]?=some C)∨(i=s.h.length∧C=B):=fun i C hC=>by
  rcases Nat.lt_trichotomy i s.h.length with h|h|h
  ·rw[List.getElem?_append_left h] at hC;exact .inl ⟨h,hC⟩
  ·subst h;simp at hC;exact .inr ⟨rfl,hC.symm⟩
  ·rw[List.getElem?_append_right (by omega)] at hC;rw[List.getElem?_eq_none (by simp;omega)] at hC;cases hC
 have hap:∀i C p,s.h[i]?=some C→own C=true→σ i=some p→p.1≠id:=fun i C p h1 h2 h3 e=>by
  have:=hok.cold.apart i C p h1 h2 h3;rw[e,hc] at this;cases this
 have hmarks:∀l,l∈s.d→l<s.h.length:=fun l hl=>(List.getElem?_eq_some_iff.1 (hok.marks l hl).2).1
 have hok2:Ok P (more σ s.h.length (some (id,0))) { s with t:=s.t.set j (.slice s.h.length .z sz len cap),h:=s.h++[B] } w:=by
  refine⟨⟨fun i q hi hq=>?_,fun i k C1 D1 q r hij hC hD ho' hq hr=>?_,fun i C1 hC=>?_,fun l hl=>?_,fun l hl=>?_⟩,⟨hok.cold.there,fun i C1 q hC ho' hq=>?_⟩⟩
  ·by_cases hi':i<s.h.length
   ·rw[hσ i hi'] at hq;exact hok.lt i q hi' hq
   ·simp only[List.length_append,List.length_cons,List.length_nil] at hi;obtain rfl:i=s.h.length:=by omega
    rw[jV] at hq;cases hq;exact hcold.lt
  ·rcases hget i C1 hC with⟨hi,hC'⟩|⟨hi,rfl⟩<;>rcases hget k D1 hD with⟨hk,hD'⟩|⟨hk,rfl⟩
   ·rw[hσ i hi] at hq;rw[hσ k hk] at hr;exact hok.ne i k C1 D1 q r hij hC' hD' ho' hq hr
   ·subst hk;rw[hσ i hi] at hq;rw[jV] at hr;cases hr
    exact hap i C1 q hC' (ho'.resolve_right (by rw[ho];simp)) hq
   ·subst hi;rw[hσ k hk] at hr;rw[jV] at hq;cases hq
    exact(hap k D1 r hD' (ho'.resolve_left (by rw[ho];simp)) hr).symm
   ·omega
  ·rcases hget i C1 hC with⟨hi,hC'⟩|⟨hi,rfl⟩
   ·rw[hσ i hi];exact kaX (hok.blk i C1 hC') (fun q hq _=>rfl) (fun q hq _=>rfl) (kkX (hsh i C1 hC') hσ)
   ·subst hi;rw[jV];exact hB _ w hcold
  ·obtain⟨h1,h2⟩:=hok.marks l hl;exact⟨h1,by simp only;rw[List.getElem?_append_left (hmarks l hl)];exact h2⟩
  ·obtain⟨h1,D,h2,h3⟩:=hok.rnd l hl;exact⟨h1,D,by simp only;rw[List.getElem?_append_left (List.getElem?_eq_some_iff.1 h2).1];exact h2,h3⟩
  ·rcases hget i C1 hC with⟨hi,hC'⟩|⟨hi,rfl⟩
   ·rw[hσ i hi] at hq;exact hok.cold.apart i C1 q hC' ho' hq
   ·rw[ho] at ho';cases ho'
 have hstep:Step σ s w (more σ s.h.length (some (id,0))) { s with t:=s.t.set j (.slice s.h.length .z sz len cap),h:=s.h++[B] } w:=by
  refine⟨Nat.le_refl _,rfl,rfl,rfl,fun _ _ _=>rfl,by simp,fun i hi _=>hσ i hi,fun _ h=>h,fun i C1 q hC ho' hq _=>?_,rfl⟩
  rcases hget i C1 hC with⟨hi,hC'⟩|⟨hi,rfl⟩
  ·rw[hσ i hi] at hq;exact⟨i,C1,q,hC',ho',hq,rfl⟩
  ·rw[ho] at ho';cases ho'
 obtain⟨σ2,s2,k1,k2,k3,k4,k5⟩:=h.out σ0 s0 w0 _ w hn hok2 (hst.trans hstep);refine⟨σ2,s2,k1,k2,k3,k4.trans ?_,fun hl i hi=>(k5 (by simp;omega) i hi).trans (hσ i (by omega))⟩
 unfold act;simp only
 rw[kaZ (v:=.val (.slice (some ⟨id,0,none⟩) len cap)) hj (by simp[den,more,ixN]),sc_denL hσ s.t hst'];congr 1
 refine congrArg (·++s.x) (List.map_congr_left ?_)
 intro l hl;unfold mark;rw[hσ l (hmarks l hl)]
theorem kmi {σ:Names} {w:World} {id:Nat} {k:IntKind} {l:List Int} (h:coldB w id (.ints k l)):holds P σ (some (id,0)) w (.ro k l):=by
 obtain⟨t,l',h⟩:=h;refine .inr ⟨id,0,rfl,fun i hi=>?_⟩
 rw[Nat.zero_add,kt h,kab hi]
theorem kd0 {σ:Names} {w:World} {id sz len:Nat} {f:Nat→List Value} {F:Nat→List SV} (hF:∀σ i,i<len→denL σ (F i)=f i) (h:coldB w id (.rows sz len f)):holds P σ (some (id,0)) w (.roA sz len F):=by
 obtain⟨t,cs,h,h5⟩:=h;refine .inr ⟨id,0,rfl,fun i hi=>?_⟩
 have hden:=hF σ i hi;have hlen:(F i).length=(f i).length:=by rw[←hden];simp[kw]
 refine⟨by rw[hlen];exact(h5 i hi).1,fun m v hv=>?_⟩
 have hm:m<(F i).length:=(List.getElem?_eq_some_iff.1 hv).1;rw[Nat.zero_add,kt h];refine(h5 i hi).2 m _ ?_
 rw[←hden,jh,hv];rfl

def kmj (D:List Nat) (R:List Nat) (s:SS) (js:Nat→Value) (T:List (Nat×SV)) (B:List (Nat×SB)) (c:Nat→Option CB):SS:=
 { t:=kkb D js 0 (knR T s.t),h:=knS B s.h,r:=R,d:=s.d,rd:=s.rd,x:=s.x,c:=c }
theorem kd1 {O:Ops} {b:XC} {K:XE→SS→Prop} {α:Type} (D:List Nat) (R:List Nat) (T:α→List (Nat×SV)) (B:α→List (Nat×SB)) (C:α→Nat→Option CB) (I:α→Prop) (μ:α→Nat) (hw:Words O) (hm:P.follows .mixedOrders=true)
  (h0:Cv P s.h.length s (fun s'=>∃a,I a∧∃js,s'=kmj D R s js (T a) (B a) (C a)))
  (round:∀a js,I a→ex O P b (kmj D R s js (T a) (B a) (C a)) (kfg (fun s''=>Cv P s.h.length s'' (fun s3=>∃a',(I a'∧μ a'<μ a)∧∃js,s3=kmj D R s js (T a') (B a') (C a'))) K)):WX P (.loop b) s K:=by
 refine kdU hw hm (fun n s'=>∃a,(I a∧μ a=n)∧∃js,s'=kmj D R s js (T a) (B a) (C a)) (h0.mono fun s' ⟨a,h1,h2⟩=>⟨_,a,⟨h1,rfl⟩,h2⟩) ?_
 rintro n s' ⟨a,⟨h1,rfl⟩,js,rfl⟩;have:=round a js h1;have e:kfg (fun s''=>Cv P s.h.length s'' (fun s3=>∃a',(I a'∧μ a'<μ a)∧∃js,s3=kmj D R s js (T a') (B a') (C a'))) K=(fun(e:XE) (s'':SS)=>match e with
   |.normal=>Cv P s.h.length s'' (fun s3=>∃m,m<μ a∧∃a',(I a'∧μ a'=m)∧∃js,s3=kmj D R s js (T a') (B a') (C a'))
   |.exit id=>K (.exit id) s''
   |.ret=>K .ret s''
   |.panic v=>K (.panic v) s''):=by
  funext e s''
  cases e with
  |normal=>
   refine propext ⟨fun h=>h.mono ?_,fun h=>h.mono ?_⟩
   ·rintro s3 ⟨a',⟨h1,h2⟩,h3⟩;exact⟨_,h2,a',⟨h1,rfl⟩,h3⟩
   ·rintro s3 ⟨m,hm,a',⟨h1,rfl⟩,h3⟩;exact⟨a',⟨h1,hm⟩,h3⟩
  |_=>rfl
 rw[e] at this;exact this
end
end Go.Sx
