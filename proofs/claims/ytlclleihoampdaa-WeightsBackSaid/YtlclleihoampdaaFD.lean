import Derived.Test.YtlclleihoampdaaFC
import Derived.RecoverIn
set_option linter.unusedVariables false
set_option linter.unusedSimpArgs false
namespace Go.Sx
open Go
def kcF (ks:List Nat):Nat→List SB→List SB
 |_,[]=>[]
 |i,B::l=>(if ka4 i ks then .free else B)::kcF ks (i+1) l
theorem kfy (ks:List Nat):∀(l:List SB) (n i:Nat) (B:SB),(kcF ks n l)[i]?=some B→∃C,l[i]?=some C∧(B=C∨B=.free)
 |[],_,i,B,h=>by simp[kcF] at h
 |C::l,n,0,B,h=>by
  simp only[kcF,List.getElem?_cons_zero,Option.some.injEq] at h;refine⟨C,rfl,?_⟩
  split at h
  ·exact .inr h.symm
  ·exact .inl h.symm
 |C::l,n,i+1,B,h=>by
  simp only[kcF,List.getElem?_cons_succ] at h;obtain⟨D,h1,h2⟩:=kfy ks l (n+1) i B h;exact⟨D,by simpa using h1,h2⟩
theorem kdd (ks:List Nat):∀(l:List SB) (n:Nat),(kcF ks n l).length=l.length
 |[],_=>rfl
 |B::l,n=>by simp[kcF,kdd ks l]
theorem klT {P:Program} {f:Nat} {args:List SV} {H:List SB} {kP:SV→List SB→List Nat→Prop} (ks:List Nat) (h:Con P f args H (fun v H' R=>kP v (kcF ks 0 H') R)):Con P f args H kP:=by
 refine⟨h.go,fun σ w hok=>(h.out σ w hok).mono ?_⟩
 rintro e w' ⟨σ',v,H',R,k1,k2,k3,k4⟩;have hget:=kfy ks H' 0;have hown:∀{B C:SB},(B=C∨B=.free)→own B=true→own C=true:=by
  rintro B C (rfl|rfl) ho
  ·exact ho
  ·cases ho
 refine⟨σ',v,kcF ks 0 H',R,k1,k2,⟨⟨fun i p hi hp=>k3.lt i p (by rw[kdd] at hi;exact hi) hp,fun i j B C p q hij hB hC ho=>?_,fun i B hB=>?_,(fun l hl=>by cases hl),(fun l hl=>by cases hl)⟩,Cold.nil rfl⟩,
  ⟨k4.size,k4.os,k4.tape,k4.output,k4.far,by rw[kdd];exact k4.len,k4.names,k4.red,fun i B p hB ho=>?_,rfl⟩⟩
 ·obtain⟨B0,hB0,eB⟩:=hget i B hB;obtain⟨C0,hC0,eC⟩:=hget j C hC;exact k3.ne i j B0 C0 p q hij hB0 hC0 (ho.imp (hown eB) (hown eC))
 ·obtain⟨B0,hB0,eB⟩:=hget i B hB;rcases eB with rfl|rfl
  ·exact k3.blk i B hB0
  ·trivial
 ·obtain⟨B0,hB0,eB⟩:=hget i B hB;exact k4.own i B0 p hB0 (hown eB ho)
theorem klU (k:IntKind) (a:Nat→Int) (b:Nat→SV) (i:Nat) (n:Int):kfZ (fun m=>[.int k (a m),b m]) i 0 (.int k n)=fun m=>[.int k (q6 a i n m),b m]:=by
 funext m;rw[j4,kU];split<;>rfl
theorem klV (k:IntKind) (b:Nat→Int) (a:Nat→SV) (i:Nat) (n:Int):kfZ (fun m=>[a m,.int k (b m)]) i 1 (.int k n)=fun m=>[a m,.int k (q6 b i n m)]:=by
 funext m;rw[j4,kU];split<;>rfl
end Go.Sx
namespace Go.Sx
open Go
def qf (ks:List Nat):List (Nat×Ix):=ks.map fun k=>(k,.z)
def kde:Nat→List Nat→Nat→Bool
 |0,_,_=>true
 |n+1,k::ks,i=>if k==i then kde n ks (i+1) else false
 |_+1,[],_=>false
theorem qx:∀{n:Nat} {ks:List Nat} {i:Nat},kde n ks i=true→∀j,j<n→ks[j]?=some (i+j)
 |0,_,_,_,j,hj=>by omega
 |n+1,[],_,h,j,hj=>by simp[kde] at h
 | n+1,k::ks,i,h,j,hj=>by
  simp only[kde] at h;split at h
  ·rename_i hk;cases j with
   |zero=>simp at hk;simp[hk]
   |succ j=>
    have:=qx h j (by omega);simp only[List.getElem?_cons_succ,this,Option.some.injEq];omega
  ·cases h
def keH:List Nat→Bool
 |[]=>true
 |k::ks=>if ka4 k ks then false else keH ks
theorem keI {n:Nat}:∀{l:List Nat},ka4 n l=false→n∉l
 |[],_=>by simp
 | m::l,h=>by
  simp only[ka4] at h;split at h
  ·cases h
  ·rename_i hne;simp only[beq_iff_eq] at hne;simp only[List.mem_cons,not_or];exact⟨hne,keI h⟩
theorem kbm:∀{ks:List Nat},keH ks=true→∀(i j:Nat) (a:Nat),ks[i]?=some a→ks[j]?=some a→i=j
 |[],_,i,j,a,hi,_=>by simp at hi
 | k::ks,h,i,j,a,hi,hj=>by
  simp only[keH] at h;split at h
  ·cases h
  rename_i hm;have hm:=keI (by simpa using hm);cases i with
  | zero=>
   cases j with
   |zero=>rfl
   |succ j=>
    simp at hi hj;subst hi
    exact(hm (List.mem_of_getElem? hj)).elim
  | succ i=>
   cases j with
   |zero=>
    simp at hi hj;subst hj
    exact(hm (List.mem_of_getElem? hi)).elim
   |succ j=>
    simp at hi hj
    rw[kbm h i j a hi hj]
def kjw (ks:List Nat) (H':List SB):List Nat→List SB→Prop
 |[],[]=>True
 |k::l,B::H2=>H'[k]?=some (kas (qf ks) 0 B)∧okB (qf ks) 0 B (kjw ks H' l H2)
 |_,_=>False
theorem kcd {ks:List Nat} {H':List SB}:∀{l:List Nat} {H2:List SB},kjw ks H' l H2→H2.length=l.length∧∀(i:Nat) (B:SB),H2[i]?=some B→∃k:Nat,l[i]?=some k∧H'[k]?=some (kas (qf ks) 0 B)∧okB (qf ks) 0 B True
 |[],[],_=>⟨rfl,fun i B h=>by simp at h⟩
 |k::l,B::H2,h=>by
  obtain⟨h1,h2⟩:=h;obtain⟨h3,h4⟩:=kgc h2;obtain⟨h5,h6⟩:=kcd h3;refine⟨by simp[h5],fun i B' hB'=>?_⟩
  cases i with
  |zero=>simp at hB';subst hB';exact⟨k,rfl,h1,h4⟩
  |succ i=>simp at hB';obtain⟨k',e1,e2⟩:=h6 i B' hB';exact⟨k',by simpa using e1,e2⟩
 |[],_::_,h=>h.elim
 |_::_,[],h=>h.elim
theorem khC {P:Program} {f:Nat} {args:List SV} {H:List SB} {kP:SV→List SB→List Nat→Prop} (ks:List Nat) (hk:kde H.length ks 0=true) (hd:keH ks=true)
  (h:Con P f args H (fun v H' R=>∃v2 H2,v=ren (qf ks) 0 v2∧okV (qf ks) 0 v2=true∧kjw ks H' ks H2∧kP v2 H2 R)):Con P f args H kP:=by
 refine⟨h.go,fun σ w hok=>(h.out σ w hok).mono ?_⟩
 rintro e w' ⟨σ',v,H',R,⟨v2,H2,rfl,hv,hpk,hP⟩,k2,k3,k4⟩;obtain⟨hlen,hB2⟩:=kcd hpk;have hrn:∀i k,ks[i]?=some k→rn (qf ks) 0 i=(k,.z):=fun i k hi=>by unfold rn qf;rw[List.getElem?_map,hi];rfl
 have hσ:∀i k,ks[i]?=some k→cut (qf ks) 0 σ' i=σ' k:=fun i k hi=>by
  unfold cut;rw[hrn i k hi]
  show(σ' k).map (fun p=>(p.1,p.2+0))=σ' k
  cases σ' k<;>rfl
 refine⟨cut (qf ks) 0 σ',v2,H2,R,hP,?_,⟨⟨fun i p hi hp=>?_,fun i j B C p q hij hB hC ho hp hq=>?_,fun i B hB=>?_,(fun l hl=>by cases hl),(fun l hl=>by cases hl)⟩,Cold.nil rfl⟩,
  ⟨k4.size,k4.os,k4.tape,k4.output,k4.far,?_,fun i hi hR=>?_,k4.red,fun i B p hB ho hp hlt=>?_,rfl⟩⟩
 ·rw[k2,jS (qf ks) 0 σ' _ (fun _=>rfl) v2 hv]
 ·obtain⟨B,hB⟩:∃B,H2[i]?=some B:=⟨_,List.getElem?_eq_getElem hi⟩;obtain⟨k,e1,e2,_⟩:=hB2 i B hB;rw[hσ i k e1] at hp;exact k3.lt k p (by have:=List.getElem?_eq_some_iff.1 e2;exact this.1) hp
 ·obtain⟨k,e1,e2,_⟩:=hB2 i B hB;obtain⟨k',e1',e2',_⟩:=hB2 j C hC;rw[hσ i k e1] at hp;rw[hσ j k' e1'] at hq;refine k3.ne k k' _ _ p q (fun e=>hij ?_) e2 e2' (by rw[qQ,qQ];exact ho) hp hq
  subst e;exact kbm hd i j k e1 e1'
 ·obtain⟨k,e1,e2,e3⟩:=hB2 i B hB;rw[hσ i k e1];exact(kbD (fun _=>rfl) e3).1 (k3.blk k _ e2)
 ·have:=qx hk;show H.length≤H2.length
  rw[hlen];rcases Nat.lt_or_ge ks.length H.length with hlt|hge
  ·have:=this ks.length hlt;simp at this
  ·exact hge
 ·have hi:i<H.length:=hi;have h1:=qx hk i hi;rw[Nat.zero_add] at h1;rw[hσ i i h1];exact k4.names i hi hR
 ·obtain⟨k,e1,e2,_⟩:=hB2 i B hB;rw[hσ i k e1] at hp;exact k4.own k _ p e2 (by rw[qQ];exact ho) hp hlt
end Go.Sx
namespace Go.Sx
open Go
theorem ju {P:Program} {f:Nat} {args:List SV} {H:List SB} {kP:SV→List SB→List Nat→Prop}
  (h:Con P f args H (fun v H' R=>∃ks v2 H2,kde H.length ks 0=true∧keH ks=true∧v=ren (qf ks) 0 v2∧okV (qf ks) 0 v2=true∧kjw ks H' ks H2∧kP v2 H2 R)):Con P f args H kP:=by
 refine⟨h.go,fun σ w hok=>(h.out σ w hok).mono ?_⟩
 rintro e w' ⟨σ',v,H',R,⟨ks,v2,H2,hk,hd,rfl,hv,hpk,hP⟩,k2,k3,k4⟩;obtain⟨hlen,hB2⟩:=kcd hpk;have hrn:∀i k,ks[i]?=some k→rn (qf ks) 0 i=(k,.z):=fun i k hi=>by unfold rn qf;rw[List.getElem?_map,hi];rfl
 have hσ:∀i k,ks[i]?=some k→cut (qf ks) 0 σ' i=σ' k:=fun i k hi=>by
  unfold cut;rw[hrn i k hi]
  show(σ' k).map (fun p=>(p.1,p.2+0))=σ' k
  cases σ' k<;>rfl
 refine⟨cut (qf ks) 0 σ',v2,H2,R,hP,?_,⟨⟨fun i p hi hp=>?_,fun i j B C p q hij hB hC ho hp hq=>?_,fun i B hB=>?_,(fun l hl=>by cases hl),(fun l hl=>by cases hl)⟩,Cold.nil rfl⟩,
  ⟨k4.size,k4.os,k4.tape,k4.output,k4.far,?_,fun i hi hR=>?_,k4.red,fun i B p hB ho hp hlt=>?_,rfl⟩⟩
 ·rw[k2,jS (qf ks) 0 σ' _ (fun _=>rfl) v2 hv]
 ·obtain⟨B,hB⟩:∃B,H2[i]?=some B:=⟨_,List.getElem?_eq_getElem hi⟩;obtain⟨k,e1,e2,_⟩:=hB2 i B hB;rw[hσ i k e1] at hp;exact k3.lt k p (by have:=List.getElem?_eq_some_iff.1 e2;exact this.1) hp
 ·obtain⟨k,e1,e2,_⟩:=hB2 i B hB;obtain⟨k',e1',e2',_⟩:=hB2 j C hC;rw[hσ i k e1] at hp;rw[hσ j k' e1'] at hq;refine k3.ne k k' _ _ p q (fun e=>hij ?_) e2 e2' (by rw[qQ,qQ];exact ho) hp hq
  subst e;exact kbm hd i j k e1 e1'
 ·obtain⟨k,e1,e2,e3⟩:=hB2 i B hB;rw[hσ i k e1];exact(kbD (fun _=>rfl) e3).1 (k3.blk k _ e2)
 ·have:=qx hk;show H.length≤H2.length
  rw[hlen];rcases Nat.lt_or_ge ks.length H.length with hlt|hge
  ·have:=this ks.length hlt;simp at this
  ·exact hge
 ·have hi:i<H.length:=hi;have h1:=qx hk i hi;rw[Nat.zero_add] at h1;rw[hσ i i h1];exact k4.names i hi hR
 ·obtain⟨k,e1,e2,_⟩:=hB2 i B hB;rw[hσ i k e1] at hp;exact k4.own k _ p e2 (by rw[qQ];exact ho) hp hlt
end Go.Sx
namespace Go.Sx
open Go
def koQ (P:Program):Code→Option (XC×XC×XC×Nat×Nat×Nat×Nat)
 | .seq c0 (.seq c1 (.seq (.region _ ops false) (.seq c3 .ret)))=>
  match ops.toList with
  | [m,d]=>match m.op,d.op with
   | .makeFunc (.func g) first cap,.defer c=>match m.dst,m.guard,d.dst,d.guard,first.toList,cap.toList with
    | some j,none,none,none,[],[.tmp a,.tmp b]=>match c.callee,c.args.toList with
     |.value (.tmp j'),[]=>if j'==j then match kt P c0,kt P c1,kt P c3 with
      |some x0,some x1,some x3=>some (x0,x1,x3,g,j,a,b)
      |_,_,_=>none
      else none
     |_,_=>none
    |_,_,_,_,_,_=>none
   |_,_=>none
  |_=>none
 |_=>none
structure FnD (P:Program) (f:Nat) (x0 x1 x3:XC) (g j a b n:Nat) (rs:List Nat):Prop where
 go:∀(xs:Array Value) (w:World),(callFunc f xs).run P w=.ok (.enter f xs) w
 has:∃fn c,P.funcs[f]?=some fn∧fn.body=some c∧koQ P c=some (x0,x1,x3,g,j,a,b)∧fn.ntmps=n∧ket P fn.results.toList=some rs
theorem FnD.of {P:Program} {f:Nat} {x0 x1 x3:XC} {g j a b n:Nat} {rs:List Nat} {fn:Func} (go:∀(xs:Array Value) (w:World),(callFunc f xs).run P w=.ok (.enter f xs) w) (hf:P.funcs[f]?=some fn)
  (hc:fn.body.bind (koQ P)=some (x0,x1,x3,g,j,a,b)) (hn:fn.ntmps=n) (hr:ket P fn.results.toList=some rs):FnD P f x0 x1 x3 g j a b n rs:=by
 refine⟨go,?_⟩
 cases hb:fn.body with
 |none=>rw[hb] at hc;cases hc
 |some c=>rw[hb] at hc;exact⟨fn,c,hf,hb,hc,hn,hr⟩
end Go.Sx
namespace Go.Sx
open Go
def koR:Code→Option Nat
 | .seq (.region _ r0 false) (.seq (.region _ r1 false) (.cond (.tmp e) _ .skip))=>
  match r0.toList,r1.toList with
  | [o0,o1],[o2,o3]=>match o0.op,o1.op,o2.op,o3.op with
   |.call c,.assign (.tmp a'),.move (.tmp b'),.binOp .neq ty (.tmp d') (.const .nilIface) _=>match c.callee,c.args.toList,o0.dst,o1.dst,o2.dst,o3.dst,o0.guard,o1.guard,o2.guard,o3.guard with
    |.builtin .recover,[],some a,some b,some d,some e',none,none,none,none=>if a'==a&&b'==b&&d'==d&&e'==e&&(ltB a 10&&ltB b 10&&ltB d 10&&ltB e 10) then some ty else none
    |_,_,_,_,_,_,_,_,_,_=>none
   |_,_,_,_=>none
  |_,_=>none
 |_=>none
end Go.Sx
namespace Go.Sx
open Go Go.ChangeShapes Go.WideShapes Go.RowKit Go.Deep
variable {H:Type} {enc:TypeId×Value→H} {P:Program}
end Go.Sx
namespace Go.Sx
open Go
def koS (P:Program) (σ:Names) (H:List SB) (w:World) (kP Pan:SV→List SB→List Nat→Prop):Ending→World→Prop:=fun e w'=>
 ∃σ' v H' R,(kP v H' R∧e=.returned (den σ' v)∨Pan v H' R∧e=.panicked [{ v:=den σ' v,recovered:=false }])∧Ok P σ' (small H' R) w'∧Step σ (small H []) w σ' (small H' R) w'
structure ConX (P:Program) (f:Nat) (args:List SV) (H:List SB) (kP Pan:SV→List SB→List Nat→Prop):Prop where
 go:∀(xs:Array Value) (w:World),(callFunc f xs).run P w=.ok (.enter f xs) w
 out:∀σ w,Ok P σ (small H []) w→CallsIn (FR P none) 0 P f (denL σ args).toArray w (koS P σ H w kP Pan)
theorem Con.x {P:Program} {f:Nat} {args:List SV} {H:List SB} {kP Pan:SV→List SB→List Nat→Prop} (c:Con P f args H kP):ConX P f args H kP Pan:=
 ⟨c.go,fun σ w hok=>(c.out σ w hok).mono fun _ _ ⟨σ',v,H',R,hP,he,h1,h2⟩=>⟨σ',v,H',R,.inl ⟨hP,he⟩,h1,h2⟩⟩
theorem ConX.mono {P:Program} {f:Nat} {args:List SV} {H:List SB} {kP Post' Pan Pan':SV→List SB→List Nat→Prop} (c:ConX P f args H kP Pan) (h:∀v H' R,kP v H' R→Post' v H' R) (h2:∀v H' R,Pan v H' R→Pan' v H' R):ConX P f args H Post' Pan':=
 ⟨c.go,fun σ w hok=>(c.out σ w hok).mono fun _ _ ⟨σ',v,H',R,hP,h3,h4⟩=>⟨σ',v,H',R,hP.elim (fun k=>.inl ⟨h _ _ _ k.1,k.2⟩) (fun k=>.inr ⟨h2 _ _ _ k.1,k.2⟩),h3,h4⟩⟩
section
variable {P:Program} {s:SS}
end
end Go.Sx
namespace Go.Sx
open Go
def LandsS (P:Program) (σ:Names) (s:SS) (w:World) (K:XE→SS→Prop) (Q:Exit→Act→World→Prop):Prop:=
 (∀σ' s' w',K .normal s'→Ok P σ' s' w'→Step σ s w σ' s' w'→Q .normal (act σ' s') w') ∧
 ∀v σ' s' w',K (.panic v) s'→Ok P σ' s' w'→Step σ s w σ' s' w'→Q (.panic [{ v:=den σ' v,recovered:=false }]) (act σ' s') w'
section
variable {P:Program} {σ:Names} {s:SS} {w:World} {K:XE→SS→Prop} {Q:Exit→Act→World→Prop}
theorem LandsS.later {σ':Names} {s':SS} {w':World} (h:LandsS P σ s w K Q) (hst:Step σ s w σ' s' w'):LandsS P σ' s' w' K Q:=
 ⟨fun σ'' s'' w'' hK hok hst'=>h.1 σ'' s'' w'' hK hok (hst.trans hst'),fun v σ'' s'' w'' hK hok hst'=>h.2 v σ'' s'' w'' hK hok (hst.trans hst')⟩
end
def kn7:Code→Option (Nat×Nat×Nat×Nat×Code)
 | .seq (.region _ r0 false) (.seq (.region _ r1 false) (.cond (.tmp e) x .skip))=>
  match r0.toList,r1.toList with
  |[o0,o1],[o2,_]=>match o0.dst,o1.dst,o2.dst with
   |some a,some b,some d=>some (a,b,d,e,x)
   |_,_,_=>none
  |_,_=>none
 |_=>none
structure RecFn (P:Program) (g:Nat) (xA:XC) (ty a b d e n:Nat):Prop where
 has:∃fn c x,P.funcs[g]?=some fn∧fn.body=some c∧koR c=some ty∧kn7 c=some (a,b,d,e,x)∧kt P x=some xA∧fn.results=#[]∧fn.ntmps=n∧10≤n
 gd:∀t v dd w,(eqGuard .neq ty (.tmp dd) (.const .nilIface) (.iface t v) .nilIface).run P w=.ok () w
 ne:∀t v w,(binOp .neq ty (.iface t v) .nilIface).run P w=.ok (.bool true) w
theorem RecFn.of {P:Program} {g:Nat} {xA:XC} {ty a b d e n:Nat} {fn:Func} (hf:P.funcs[g]?=some fn) (hc:fn.body.bind koR=some ty) (ha:(fn.body.bind kn7).bind (fun q=>(kt P q.2.2.2.2).map fun y=>(q.1,q.2.1,q.2.2.1,q.2.2.2.1,y))=some (a,b,d,e,xA))
  (hr:fn.results=#[]) (hn:fn.ntmps=n) (h10:10≤n) (gd:∀t v dd w,(eqGuard .neq ty (.tmp dd) (.const .nilIface) (.iface t v) .nilIface).run P w=.ok () w)
  (ne:∀t v w,(binOp .neq ty (.iface t v) .nilIface).run P w=.ok (.bool true) w):RecFn P g xA ty a b d e n:=by
 refine⟨?_,gd,ne⟩
 cases hb:fn.body with
 |none=>rw[hb] at hc;cases hc
 | some c=>
  rw[hb] at hc ha;simp only[Option.bind_some] at hc ha;cases hq:kn7 c with
  |none=>rw[hq] at ha;cases ha
  |some q=>
   obtain⟨a',b',d',e',x⟩:=q;rw[hq] at ha;simp only[Option.bind_some,Option.map_eq_some_iff] at ha;obtain⟨y,hy,he⟩:=ha;simp only[Prod.mk.injEq] at he;obtain⟨rfl,rfl,rfl,rfl,rfl⟩:=he;exact⟨fn,c,x,hf,hb,hc,hq,hy,hr,hn,h10⟩
end Go.Sx
namespace Go.Sx
open Go
def klW:Code→Bool
 |.seq _ (.seq _ (.seq _ (.seq (.region _ _ false) .ret)))=>true
 |_=>false
def LastPlain (P:Program) (f:Nat):Prop:=∃fn c,P.funcs[f]?=some fn∧fn.body=some c∧klW c=true
theorem LastPlain.of {P:Program} {f:Nat} {fn:Func} (hf:P.funcs[f]?=some fn) (hc:fn.body.map klW=some true):LastPlain P f:=by
 cases hb:fn.body with
 |none=>rw[hb] at hc;cases hc
 |some c=>rw[hb] at hc;exact⟨fn,c,hf,hb,by simpa using hc⟩
end Go.Sx
namespace Go.Sx
open Go
end Go.Sx
namespace Go.Sx
open Go
theorem YieldX.mono {P:Program} {l:Nat} {args:List SV} {s:SS} {K K':SV→SS→Prop} {X X':XE→SS→Prop} (hK:∀v s',K v s'→K' v s') (hX:∀v s',X (.panic v) s'→X' (.panic v) s') (h:YieldX P l args s K X):YieldX P l args s K' X':=by
 refine⟨fun σ w hok=>?_⟩
 obtain⟨fn,tmps,asg,body,h1,hF,h2⟩:=h.out σ w hok;refine⟨fn,tmps,asg,body,h1,hF,fun c cs hr=>?_⟩
 obtain⟨e,w',hR,hs⟩:=h2 c cs hr;refine⟨e,w',?_,hs⟩
 obtain⟨σ',s',k1,k2,k3,k4⟩:=hR;refine⟨σ',s',k1,k2,k3,?_⟩
 cases e with
 |returned v=>obtain⟨v',k5,k6⟩:=k4;exact⟨v',hK _ _ k5,k6⟩
 |panicked ch=>obtain⟨v',k5,k6⟩:=k4;exact⟨v',hX _ _ k5,k6⟩
 |outgrown=>exact k4
theorem YieldX.gen {P:Program} {l:Nat} {args:List SV} {s:SS} {K:SV→SS→Prop} {X:XE→SS→Prop} (h:YieldX P l (genL args) s K X):YieldX P l args s K X:=by
 refine⟨fun σ w hok=>?_⟩
 have:=h.out σ w hok
 rwa [den_genL] at this
end Go.Sx
namespace Go.Sx
open Go
section
variable {O:Ops} {P:Program} {s:SS}
theorem WX.mono {x:XC} {K K':XE→SS→Prop} (hK:∀e s',K e s'→K' e s') (h:WX P x s K):WX P x s K':=
 ⟨fun c hc σ w hok=>wpIn_mono (h.out c hc σ w hok) fun _ _ _ ⟨e',σ',s',k1,k2⟩=>⟨e',σ',s',hK _ _ k1,k2⟩⟩
theorem CallX.mono2 {g:Nat} {args:List SV} {K K':SV→SS→Prop} {X X':XE→SS→Prop} (hK:∀v s',K v s'→K' v s') (hX:∀v s',X (.panic v) s'→X' (.panic v) s') (h:CallX P g args s K X):CallX P g args s K' X':=by
 refine⟨h.go,fun σ w hok=>(h.out σ w hok).mono ?_⟩
 rintro e w' ⟨σ',s',h1,h2,h3,h4⟩;refine⟨σ',s',h1,h2,h3,?_⟩
 cases e with
 |returned v=>obtain⟨v',k1,k2⟩:=h4;exact⟨v',hK _ _ k1,k2⟩
 |panicked ch=>obtain⟨v',k1,k2⟩:=h4;exact⟨v',hX _ _ k1,k2⟩
 |outgrown=>exact h4
theorem kiW {o:XOp} {K K':SV→SS→Prop} {X X':XE→SS→Prop} (hK:∀v s',K v s'→K' v s') (hX:∀v s',X (.panic v) s'→X' (.panic v) s') (h:kL O P o s K X):kL O P o s K' X':=by
 cases o
 case call f args=>
  simp only[kL] at h ⊢
  split at h
  ·exact CallX.mono2 hK hX h
  ·exact YieldX.mono hK hX h
  ·exact h
 case icall nm x args=>
  simp only[kL] at h ⊢
  split at h
  ·obtain⟨g,hM,h⟩:=h.out;exact⟨g,hM,CallX.mono2 hK hX h⟩
  ·exact h
 case pnc x=>
  simp only[kL] at h ⊢
  split at h
  ·exact hX _ _ h
  ·exact h
 all_goals exact khB (X:=X) hK h
theorem kfz {o:XOp} {K K':SV→SS→Prop} {X X':XE→SS→Prop} (hK:∀v s',K v s'→K' v s') (hX:∀v s',X (.panic v) s'→X' (.panic v) s') (h:kd6 O P o s K X):kd6 O P o s K' X':=by
 unfold kd6 at h ⊢
 split at h
 ·exact khz (fun v=>hK v _) h
 ·exact khA (fun v=>hK v _) h
 ·exact kiW hK hX h
theorem kaS:∀{l:List j3} {s:SS} {K K':XE→SS→Prop},(∀e s',K e s'→K' e s')→qp O P l s K→qp O P l s K'
 |[],_,_,_,hK,h=>hK _ _ h
 |st::rest,s,K,K',hK,h=>by
  unfold qp at h ⊢
  exact kdD (kfz (fun v s'=>kdc (kaS hK)) (fun v s'=>hK _ _)) (keG (kaS hK)) h
theorem kbn:∀{t:XT} {s:SS} {K K':XE→SS→Prop},(∀e s',K e s'→K' e s')→exT O P t s K→exT O P t s K'
 |.fin,_,_,_,hK,h=>hK _ _ h
 |.step st t,s,K,K',hK,h=>by
  unfold exT at h ⊢
  exact kdD (kfz (fun v s'=>kdc (kbn hK)) (fun v s'=>hK _ _)) (keG (kbn hK)) h
 |.both a b,s,K,K',hK,h=>by
  unfold exT at h ⊢
  exact⟨kbn hK h.1,kbn hK h.2⟩
theorem kaT:∀{x:XC} {s:SS} {K K':XE→SS→Prop},(∀e s',K e s'→K' e s')→ex O P x s K→ex O P x s K'
 |.skip,_,_,_,hK,h=>hK _ _ h
 |.ops l,_,_,_,hK,h=>kaS hK h
 |.tree t,_,_,_,hK,h=>kbn hK h
 |.seq a b,s,K,K',hK,h=>by
  unfold ex at h ⊢
  refine kaT (fun e s' h=>?_) h
  cases e with
  |normal=>exact kaT hK h
  |_=>exact hK _ _ h
 |.cond c a b,s,K,K',hK,h=>by
  unfold ex at h ⊢
  exact kca (kaT hK) (kaT hK) h
 | .block id b,s,K,K',hK,h=>by
  unfold ex at h ⊢
  refine kaT (fun e s' h=>?_) h
  cases e with
  |exit id'=>
   simp only[kiw] at h ⊢
   split at h
   ·rename_i he;rw[if_pos he];exact hK _ _ h
   ·rename_i he;rw[if_neg he];exact hK _ _ h
  |_=>exact hK _ _ h
 |.loop b,s,K,K',hK,h=>WX.mono hK h
 |.scope b,s,K,K',hK,h=>by
  unfold ex at h ⊢
  exact kaT hK h
 |.range f ps a b,s,K,K',hK,h=>WX.mono hK h
 |.exit id,_,_,_,hK,h=>hK _ _ h
 |.ret,_,_,_,hK,h=>hK _ _ h
 |.bad,_,_,_,_,h=>h
def unr (O:Ops) (P:Program) (b:XC) (K:XE→SS→Prop):Nat→SS→Prop
 |0,_=>False
 |n+1,s=>ex O P b s (kix (unr O P b K n) K)
theorem WX.unr {b:XC} {K:XE→SS→Prop} (n:Nat) (hw:Words O) (hm:P.follows .mixedOrders=true) (h:unr O P b K n s):WX P (.loop b) s K:=by
 refine kfo hw hm (fun m s'=>Sx.unr O P b K m s') (Cv.here ⟨n,h⟩) ?_
 intro m s' hJ;cases m with
 |zero=>exact hJ.elim
 |succ m=>
  refine kaT (fun e s'' h=>?_) hJ
  cases e with
  |normal=>exact Cv.here ⟨m,Nat.lt_succ_self m,h⟩
  |_=>exact h
end
section
variable {P:Program} {s:SS} {S:SS→Prop} {n0:Nat}
theorem Cv.intsB (b n:Nat) {t:Nat} {k:IntKind} {l:List Int} (hb:s.h[b]?=some (.ints t k l)) (hn:l.length=n) (h:Cv P n0 { s with h:=s.h.set b (.buf t k l n) } S):Cv P n0 s S:=
 Cv.blockEq b (.ints t k l) (.buf t k l n) hb rfl rfl rfl (fun _ _ _ ⟨g,h1,h2⟩=>.inr ⟨g,[],h1,by simpa using h2,by simp[hn]⟩) h
end
end Go.Sx
namespace Go.Sx
open Go
end Go.Sx
namespace Go.Sx
open Go
end Go.Sx
namespace Go.Sx
open Go
end Go.Sx
namespace Go.Sx
open Go Go.ChangeShapes Go.WideShapes Go.RowKit Go.Deep
section
variable {H:Type} {enc:TypeId×Value→H} {P:Program}
end
end Go.Sx
namespace Go.Sx
open Go
end Go.Sx
namespace Go.Sx
open Go
theorem km8 (a:Value) (xs:Array Value):(#[a]++xs).extract 1 (#[a]++xs).size=xs:=by
 apply Array.ext'
 simp
theorem kjx (a:Value) (xs:Array Value):(#[a]++xs)[0]?=some a:=by
 rw[Array.getElem?_append_left (by simp)];rfl
theorem MethIs.of {P:Program} {nm:String} {t g:Nat} (h:∀(v:Value) (w:World),(method (P.types.size+Made.depth) t v nm).run P w=.ok (g,v) w)
  (go:∀(xs:Array Value) (w:World),(callFunc g xs).run P w=.ok (.enter g xs) w):MethIs P nm t g:=by
 refine⟨fun v xs w=>?_,fun v xs w f hf=>?_⟩
 ·have e0:(#[Value.iface t v]++xs)[0]?=some (.iface t v):=kjx _ _;simp only[invoke,e0,km8,callMethod,Sem.run_bind];have hp:(program:Sem Program).run P w=.ok P w:=rfl;rw[hp];simp only[Result.andThen_ok,h,go]
 ·have e0:(#[Value.iface t v]++xs)[0]?=some (.iface t v):=kjx _ _;simp only[Target.leads,e0,h,Option.some.injEq] at hf;exact hf.symm
end Go.Sx
namespace Go.Sx
open Go
inductive XW where
 |more (x:XC) (r:XW)
 |last (i j:Nat) (k:IntKind) (n:Int) (x:XC)
def kpy:Code→Option (Nat×Nat×IntKind×Int)
 | .region _ ops false=>match ops.toList with
  | [m,d]=>match m.op,d.op with
   |.move (.tmp i),.defer ca=>match m.dst,m.guard,ca.callee,ca.args.toList,d.dst,d.guard with
    |some j,none,.value (.tmp j'),[.const (.int k n)],none,none=>if j'==j then some (i,j,k,n) else none
    |_,_,_,_,_,_=>none
   |_,_=>none
  |_=>none
 |_=>none
def kn8 (P:Program):Code→Option XW
 | .seq a b=>match kpy a with
  |some (i,j,k,n)=>(kt P b).map (XW.last i j k n)
  |none=>match kt P a,kn8 P b with
   |some x,some r=>some (.more x r)
   |_,_=>none
 |_=>none
structure FnW (P:Program) (f:Nat) (x:XW) (n:Nat) (rs:List Nat):Prop where
 go:∀(xs:Array Value) (w:World),(callFunc f xs).run P w=.ok (.enter f xs) w
 has:∃fn c,P.funcs[f]?=some fn∧fn.body=some c∧kn8 P c=some x∧fn.ntmps=n∧ket P fn.results.toList=some rs
theorem FnW.of {P:Program} {f:Nat} {x:XW} {n:Nat} {rs:List Nat} {fn:Func} (go:∀(xs:Array Value) (w:World),(callFunc f xs).run P w=.ok (.enter f xs) w) (hf:P.funcs[f]?=some fn)
  (hc:fn.body.bind (kn8 P)=some x) (hn:fn.ntmps=n) (hr:ket P fn.results.toList=some rs):FnW P f x n rs:=by
 refine⟨go,?_⟩
 cases hb:fn.body with
 |none=>rw[hb] at hc;cases hc
 |some c=>rw[hb] at hc;exact⟨fn,c,hf,hb,hc,hn,hr⟩
end Go.Sx
namespace Go.Sx
open Go
end Go.Sx
namespace Go.Sx
open Go
end Go.Sx
namespace Go.Sx
open Go
@[irreducible] def kiX (c:Nat→Option CB) (id:Nat) (B:CB):Nat→Option CB:=fun b=>if b=id then some B else c b
theorem kjy (c:Nat→Option CB) (id:Nat) (B:CB) (b:Nat):kiX c id B b=if b=id then some B else c b:=by unfold kiX;rfl
theorem klX (c:Nat→Option CB) (id:Nat) (B:CB):kiX c id B id=some B:=by rw[kjy,if_pos rfl]
theorem khD {c:Nat→Option CB} {id b:Nat} {B C:CB} (h:c id=none) (hb:c b=some C):kiX c id B b=some C:=by
 rw[kjy,if_neg (fun e=>by subst e;rw[h] at hb;cases hb)];exact hb
section
variable {P:Program} {s:SS} {S:SS→Prop} {n0:Nat}
end
end Go.Sx
