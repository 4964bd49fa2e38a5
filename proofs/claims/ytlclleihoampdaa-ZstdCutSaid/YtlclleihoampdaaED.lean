import Derived.Test.YtlclleihoampdaaEC
import Derived.RecoverIn
set_option linter.unusedVariables false
set_option linter.unusedSimpArgs false
namespace Go.Sx
open Go
def kda (ks:List Nat):Nat→List SB→List SB
 |_,[]=>[]
 |i,B::l=>(if kaM i ks then .free else B)::kda ks (i+1) l
theorem kgl (ks:List Nat):∀(l:List SB) (n i:Nat) (B:SB),(kda ks n l)[i]?=some B→∃C,l[i]?=some C∧(B=C∨B=.free)
 |[],_,i,B,h=>by simp[kda] at h
 |C::l,n,0,B,h=>by
  simp only[kda,List.getElem?_cons_zero,Option.some.injEq] at h;refine⟨C,rfl,?_⟩
  split at h
  ·exact .inr h.symm
  ·exact .inl h.symm
 |C::l,n,i+1,B,h=>by
  simp only[kda,List.getElem?_cons_succ] at h;obtain⟨D,h1,h2⟩:=kgl ks l (n+1) i B h;exact⟨D,by simpa using h1,h2⟩
theorem kdI (ks:List Nat):∀(l:List SB) (n:Nat),(kda ks n l).length=l.length
 |[],_=>rfl
 |B::l,n=>by simp[kda,kdI ks l]
theorem kmT {P:Program} {f:Nat} {args:List SV} {H:List SB} {kC:SV→List SB→List Nat→Prop} (ks:List Nat) (h:Con P f args H (fun v H' R=>kC v (kda ks 0 H') R)):Con P f args H kC:=by
 refine⟨h.go,fun σ w hok=>(h.out σ w hok).mono ?_⟩
 rintro e w' ⟨σ',v,H',R,k1,k2,k3,k4⟩;have hget:=kgl ks H' 0;have hown:∀{B C:SB},(B=C∨B=.free)→own B=true→own C=true:=by
  rintro B C (rfl|rfl) ho
  ·exact ho
  ·cases ho
 refine⟨σ',v,kda ks 0 H',R,k1,k2,⟨fun i p hi hp=>k3.lt i p (by rw[kdI] at hi;exact hi) hp,fun i j B C p q hij hB hC ho=>?_,fun i B hB=>?_,(fun l hl=>by cases hl),(fun l hl=>by cases hl)⟩,
  ⟨k4.size,k4.os,k4.tape,k4.output,k4.far,by rw[kdI];exact k4.len,k4.names,k4.red,fun i B p hB ho=>?_,rfl⟩⟩
 ·obtain⟨B0,hB0,eB⟩:=hget i B hB;obtain⟨C0,hC0,eC⟩:=hget j C hC;exact k3.ne i j B0 C0 p q hij hB0 hC0 (ho.imp (hown eB) (hown eC))
 ·obtain⟨B0,hB0,eB⟩:=hget i B hB;rcases eB with rfl|rfl
  ·exact k3.blk i B hB0
  ·trivial
 ·obtain⟨B0,hB0,eB⟩:=hget i B hB;exact k4.own i B0 p hB0 (hown eB ho)
theorem kmU (k:IntKind) (a:Nat→Int) (b:Nat→SV) (i:Nat) (n:Int):kgP (fun m=>[.int k (a m),b m]) i 0 (.int k n)=fun m=>[.int k (qm a i n m),b m]:=by
 funext m;rw[qo,je];split<;>rfl
theorem kmV (k:IntKind) (b:Nat→Int) (a:Nat→SV) (i:Nat) (n:Int):kgP (fun m=>[a m,.int k (b m)]) i 1 (.int k n)=fun m=>[a m,.int k (qm b i n m)]:=by
 funext m;rw[qo,je];split<;>rfl
end Go.Sx
namespace Go.Sx
open Go
def jG (ks:List Nat):List (Nat×Ix):=ks.map fun k=>(k,.z)
def kdJ:Nat→List Nat→Nat→Bool
 |0,_,_=>true
 |n+1,k::ks,i=>if k==i then kdJ n ks (i+1) else false
 |_+1,[],_=>false
theorem qN:∀{n:Nat} {ks:List Nat} {i:Nat},kdJ n ks i=true→∀j,j<n→ks[j]?=some (i+j)
 |0,_,_,_,j,hj=>by omega
 |n+1,[],_,h,j,hj=>by simp[kdJ] at h
 | n+1,k::ks,i,h,j,hj=>by
  simp only[kdJ] at h;split at h
  ·rename_i hk;cases j with
   |zero=>simp at hk;simp[hk]
   |succ j=>
    have:=qN h j (by omega);simp only[List.getElem?_cons_succ,this,Option.some.injEq];omega
  ·cases h
def kdK:List Nat→Bool
 |[]=>true
 |k::ks=>if kaM k ks then false else kdK ks
theorem kfn {n:Nat}:∀{l:List Nat},kaM n l=false→n∉l
 |[],_=>by simp
 | m::l,h=>by
  simp only[kaM] at h;split at h
  ·cases h
  ·rename_i hne;simp only[beq_iff_eq] at hne;simp only[List.mem_cons,not_or];exact⟨hne,kfn h⟩
theorem kaJ:∀{ks:List Nat},kdK ks=true→∀(i j:Nat) (a:Nat),ks[i]?=some a→ks[j]?=some a→i=j
 |[],_,i,j,a,hi,_=>by simp at hi
 | k::ks,h,i,j,a,hi,hj=>by
  simp only[kdK] at h;split at h
  ·cases h
  rename_i hm;have hm:=kfn (by simpa using hm);cases i with
  | zero=>
   cases j with
   |zero=>rfl
   |succ j=>
    simp at hi hj;subst hi
    exact(hm (List.mem_of_getElem? hj)).elim
  | succ i=>
   cases j with
   |zero=>
    simp at hi hj;subst hj
    exact(hm (List.mem_of_getElem? hi)).elim
   |succ j=>
    simp at hi hj
    rw[kaJ h i j a hi hj]
def kig (ks:List Nat) (H':List SB):List Nat→List SB→Prop
 |[],[]=>True
 |k::l,B::H2=>H'[k]?=some (kaS (jG ks) 0 B)∧okB (jG ks) 0 B (kig ks H' l H2)
 |_,_=>False
theorem kbj {ks:List Nat} {H':List SB}:∀{l:List Nat} {H2:List SB},kig ks H' l H2→H2.length=l.length∧∀(i:Nat) (B:SB),H2[i]?=some B→∃k:Nat,l[i]?=some k∧H'[k]?=some (kaS (jG ks) 0 B)∧okB (jG ks) 0 B True
 |[],[],_=>⟨rfl,fun i B h=>by simp at h⟩
 |k::l,B::H2,h=>by
  obtain⟨h1,h2⟩:=h;obtain⟨h3,h4⟩:=kg3 h2;obtain⟨h5,h6⟩:=kbj h3;refine⟨by simp[h5],fun i B' hB'=>?_⟩
  cases i with
  |zero=>simp at hB';subst hB';exact⟨k,rfl,h1,h4⟩
  |succ i=>simp at hB';obtain⟨k',e1,e2⟩:=h6 i B' hB';exact⟨k',by simpa using e1,e2⟩
 |[],_::_,h=>h.elim
 |_::_,[],h=>h.elim
theorem kih {P:Program} {f:Nat} {args:List SV} {H:List SB} {kC:SV→List SB→List Nat→Prop} (ks:List Nat) (hk:kdJ H.length ks 0=true) (hd:kdK ks=true)
  (h:Con P f args H (fun v H' R=>∃v2 H2,v=ren (jG ks) 0 v2∧okV (jG ks) 0 v2=true∧kig ks H' ks H2∧kC v2 H2 R)):Con P f args H kC:=by
 refine⟨h.go,fun σ w hok=>(h.out σ w hok).mono ?_⟩
 rintro e w' ⟨σ',v,H',R,⟨v2,H2,rfl,hv,hpk,hP⟩,k2,k3,k4⟩;obtain⟨hlen,hB2⟩:=kbj hpk;have hrn:∀i k,ks[i]?=some k→rn (jG ks) 0 i=(k,.z):=fun i k hi=>by unfold rn jG;rw[List.getElem?_map,hi];rfl
 have hσ:∀i k,ks[i]?=some k→cut (jG ks) 0 σ' i=σ' k:=fun i k hi=>by
  unfold cut;rw[hrn i k hi]
  show(σ' k).map (fun p=>(p.1,p.2+0))=σ' k
  cases σ' k<;>rfl
 refine⟨cut (jG ks) 0 σ',v2,H2,R,hP,?_,⟨fun i p hi hp=>?_,fun i j B C p q hij hB hC ho hp hq=>?_,fun i B hB=>?_,(fun l hl=>by cases hl),(fun l hl=>by cases hl)⟩,
  ⟨k4.size,k4.os,k4.tape,k4.output,k4.far,?_,fun i hi hR=>?_,k4.red,fun i B p hB ho hp hlt=>?_,rfl⟩⟩
 ·rw[k2,jU (jG ks) 0 σ' _ (fun _=>rfl) v2 hv]
 ·obtain⟨B,hB⟩:∃B,H2[i]?=some B:=⟨_,List.getElem?_eq_getElem hi⟩;obtain⟨k,e1,e2,_⟩:=hB2 i B hB;rw[hσ i k e1] at hp;exact k3.lt k p (by have:=List.getElem?_eq_some_iff.1 e2;exact this.1) hp
 ·obtain⟨k,e1,e2,_⟩:=hB2 i B hB;obtain⟨k',e1',e2',_⟩:=hB2 j C hC;rw[hσ i k e1] at hp;rw[hσ j k' e1'] at hq;refine k3.ne k k' _ _ p q (fun e=>hij ?_) e2 e2' (by rw[jZ,jZ];exact ho) hp hq
  subst e;exact kaJ hd i j k e1 e1'
 ·obtain⟨k,e1,e2,e3⟩:=hB2 i B hB;rw[hσ i k e1];exact(kaT (fun _=>rfl) e3).1 (k3.blk k _ e2)
 ·have:=qN hk;show H.length≤H2.length
  rw[hlen];rcases Nat.lt_or_ge ks.length H.length with hlt|hge
  ·have:=this ks.length hlt;simp at this
  ·exact hge
 ·have hi:i<H.length:=hi;have h1:=qN hk i hi;rw[Nat.zero_add] at h1;rw[hσ i i h1];exact k4.names i hi hR
 ·obtain⟨k,e1,e2,_⟩:=hB2 i B hB;rw[hσ i k e1] at hp;exact k4.own k _ p e2 (by rw[jZ];exact ho) hp hlt
end Go.Sx
namespace Go.Sx
open Go
theorem jh {P:Program} {f:Nat} {args:List SV} {H:List SB} {kC:SV→List SB→List Nat→Prop}
  (h:Con P f args H (fun v H' R=>∃ks v2 H2,kdJ H.length ks 0=true∧kdK ks=true∧v=ren (jG ks) 0 v2∧okV (jG ks) 0 v2=true∧kig ks H' ks H2∧kC v2 H2 R)):Con P f args H kC:=by
 refine⟨h.go,fun σ w hok=>(h.out σ w hok).mono ?_⟩
 rintro e w' ⟨σ',v,H',R,⟨ks,v2,H2,hk,hd,rfl,hv,hpk,hP⟩,k2,k3,k4⟩;obtain⟨hlen,hB2⟩:=kbj hpk;have hrn:∀i k,ks[i]?=some k→rn (jG ks) 0 i=(k,.z):=fun i k hi=>by unfold rn jG;rw[List.getElem?_map,hi];rfl
 have hσ:∀i k,ks[i]?=some k→cut (jG ks) 0 σ' i=σ' k:=fun i k hi=>by
  unfold cut;rw[hrn i k hi]
  show(σ' k).map (fun p=>(p.1,p.2+0))=σ' k
  cases σ' k<;>rfl
 refine⟨cut (jG ks) 0 σ',v2,H2,R,hP,?_,⟨fun i p hi hp=>?_,fun i j B C p q hij hB hC ho hp hq=>?_,fun i B hB=>?_,(fun l hl=>by cases hl),(fun l hl=>by cases hl)⟩,
  ⟨k4.size,k4.os,k4.tape,k4.output,k4.far,?_,fun i hi hR=>?_,k4.red,fun i B p hB ho hp hlt=>?_,rfl⟩⟩
 ·rw[k2,jU (jG ks) 0 σ' _ (fun _=>rfl) v2 hv]
 ·obtain⟨B,hB⟩:∃B,H2[i]?=some B:=⟨_,List.getElem?_eq_getElem hi⟩;obtain⟨k,e1,e2,_⟩:=hB2 i B hB;rw[hσ i k e1] at hp;exact k3.lt k p (by have:=List.getElem?_eq_some_iff.1 e2;exact this.1) hp
 ·obtain⟨k,e1,e2,_⟩:=hB2 i B hB;obtain⟨k',e1',e2',_⟩:=hB2 j C hC;rw[hσ i k e1] at hp;rw[hσ j k' e1'] at hq;refine k3.ne k k' _ _ p q (fun e=>hij ?_) e2 e2' (by rw[jZ,jZ];exact ho) hp hq
  subst e;exact kaJ hd i j k e1 e1'
 ·obtain⟨k,e1,e2,e3⟩:=hB2 i B hB;rw[hσ i k e1];exact(kaT (fun _=>rfl) e3).1 (k3.blk k _ e2)
 ·have:=qN hk;show H.length≤H2.length
  rw[hlen];rcases Nat.lt_or_ge ks.length H.length with hlt|hge
  ·have:=this ks.length hlt;simp at this
  ·exact hge
 ·have hi:i<H.length:=hi;have h1:=qN hk i hi;rw[Nat.zero_add] at h1;rw[hσ i i h1];exact k4.names i hi hR
 ·obtain⟨k,e1,e2,_⟩:=hB2 i B hB;rw[hσ i k e1] at hp;exact k4.own k _ p e2 (by rw[jZ];exact ho) hp hlt
end Go.Sx
namespace Go.Sx
open Go
def krj (P:Program):Code→Option (XC×XC×XC×Nat×Nat×Nat×Nat)
 | .seq c0 (.seq c1 (.seq (.region _ ops false) (.seq c3 .ret)))=>
  match ops.toList with
  | [m,d]=>match m.op,d.op with
   | .makeFunc (.func g) first cap,.defer c=>match m.dst,m.guard,d.dst,d.guard,first.toList,cap.toList with
    | some j,none,none,none,[],[.tmp a,.tmp b]=>match c.callee,c.args.toList with
     |.value (.tmp j'),[]=>if j'==j then match kA P c0,kA P c1,kA P c3 with
      |some x0,some x1,some x3=>some (x0,x1,x3,g,j,a,b)
      |_,_,_=>none
      else none
     |_,_=>none
    |_,_,_,_,_,_=>none
   |_,_=>none
  |_=>none
 |_=>none
structure FnD (P:Program) (f:Nat) (x0 x1 x3:XC) (g j a b n:Nat) (rs:List Nat):Prop where
 go:∀(xs:Array Value) (w:World),(callFunc f xs).run P w=.ok (.enter f xs) w
 has:∃fn c,P.funcs[f]?=some fn∧fn.body=some c∧krj P c=some (x0,x1,x3,g,j,a,b)∧fn.ntmps=n∧ke6 P fn.results.toList=some rs
theorem FnD.of {P:Program} {f:Nat} {x0 x1 x3:XC} {g j a b n:Nat} {rs:List Nat} {fn:Func} (go:∀(xs:Array Value) (w:World),(callFunc f xs).run P w=.ok (.enter f xs) w) (hf:P.funcs[f]?=some fn)
  (hc:fn.body.bind (krj P)=some (x0,x1,x3,g,j,a,b)) (hn:fn.ntmps=n) (hr:ke6 P fn.results.toList=some rs):FnD P f x0 x1 x3 g j a b n rs:=by
 refine⟨go,?_⟩
 cases hb:fn.body with
 |none=>rw[hb] at hc;cases hc
 |some c=>rw[hb] at hc;exact⟨fn,c,hf,hb,hc,hn,hr⟩
theorem kdb (σ:Names) (s:SS) (j:Nat):(act σ s).eval (.tmp j)=den σ (s.t.getD j .undef):=by
 simp only[Act.eval,act];exact kfa σ s.t j
end Go.Sx
namespace Go.Sx
open Go
def krk:Code→Option Nat
 | .seq (.region _ r0 false) (.seq (.region _ r1 false) (.cond (.tmp e) _ .skip))=>
  match r0.toList,r1.toList with
  | [o0,o1],[o2,o3]=>match o0.op,o1.op,o2.op,o3.op with
   |.call c,.assign (.tmp a'),.move (.tmp b'),.binOp .neq ty (.tmp d') (.const .nilIface) _=>match c.callee,c.args.toList,o0.dst,o1.dst,o2.dst,o3.dst,o0.guard,o1.guard,o2.guard,o3.guard with
    |.builtin .recover,[],some a,some b,some d,some e',none,none,none,none=>if a'==a&&b'==b&&d'==d&&e'==e&&(ltB a 10&&ltB b 10&&ltB d 10&&ltB e 10) then some ty else none
    |_,_,_,_,_,_,_,_,_,_=>none
   |_,_,_,_=>none
  |_,_=>none
 |_=>none
end Go.Sx
namespace Go.Sx
open Go Go.ChangeShapes Go.WideShapes Go.RowKit Go.Deep
variable {H:Type} {enc:TypeId×Value→H} {P:Program}
end Go.Sx
namespace Go.Sx
open Go
def krl (P:Program) (σ:Names) (H:List SB) (w:World) (kC Pan:SV→List SB→List Nat→Prop):Ending→World→Prop:=fun e w'=>
 ∃σ' v H' R,(kC v H' R∧e=.returned (den σ' v)∨Pan v H' R∧e=.panicked [{ v:=den σ' v,recovered:=false }])∧Ok P σ' (small H' R) w'∧Step σ (small H []) w σ' (small H' R) w'
structure ConX (P:Program) (f:Nat) (args:List SV) (H:List SB) (kC Pan:SV→List SB→List Nat→Prop):Prop where
 go:∀(xs:Array Value) (w:World),(callFunc f xs).run P w=.ok (.enter f xs) w
 out:∀σ w,Ok P σ (small H []) w→CallsIn (FR P none) 0 P f (denL σ args).toArray w (krl P σ H w kC Pan)
theorem Con.x {P:Program} {f:Nat} {args:List SV} {H:List SB} {kC Pan:SV→List SB→List Nat→Prop} (c:Con P f args H kC):ConX P f args H kC Pan:=
 ⟨c.go,fun σ w hok=>(c.out σ w hok).mono fun _ _ ⟨σ',v,H',R,hP,he,h1,h2⟩=>⟨σ',v,H',R,.inl ⟨hP,he⟩,h1,h2⟩⟩
theorem ConX.mono {P:Program} {f:Nat} {args:List SV} {H:List SB} {kC Post' Pan Pan':SV→List SB→List Nat→Prop} (c:ConX P f args H kC Pan) (h:∀v H' R,kC v H' R→Post' v H' R) (h2:∀v H' R,Pan v H' R→Pan' v H' R):ConX P f args H Post' Pan':=
 ⟨c.go,fun σ w hok=>(c.out σ w hok).mono fun _ _ ⟨σ',v,H',R,hP,h3,h4⟩=>⟨σ',v,H',R,hP.elim (fun k=>.inl ⟨h _ _ _ k.1,k.2⟩) (fun k=>.inr ⟨h2 _ _ _ k.1,k.2⟩),h3,h4⟩⟩
section
variable {P:Program} {s:SS}
end
end Go.Sx
namespace Go.Sx
open Go
def LandsS (P:Program) (σ:Names) (s:SS) (w:World) (K:XE→SS→Prop) (Q:Exit→Act→World→Prop):Prop:=
 (∀σ' s' w',K .normal s'→Ok P σ' s' w'→Step σ s w σ' s' w'→Q .normal (act σ' s') w') ∧
 ∀v σ' s' w',K (.panic v) s'→Ok P σ' s' w'→Step σ s w σ' s' w'→Q (.panic [{ v:=den σ' v,recovered:=false }]) (act σ' s') w'
section
variable {P:Program} {σ:Names} {s:SS} {w:World} {K:XE→SS→Prop} {Q:Exit→Act→World→Prop}
theorem LandsS.later {σ':Names} {s':SS} {w':World} (h:LandsS P σ s w K Q) (hst:Step σ s w σ' s' w'):LandsS P σ' s' w' K Q:=
 ⟨fun σ'' s'' w'' hK hok hst'=>h.1 σ'' s'' w'' hK hok (hst.trans hst'),fun v σ'' s'' w'' hK hok hst'=>h.2 v σ'' s'' w'' hK hok (hst.trans hst')⟩
end
def kqe:Code→Option (Nat×Nat×Nat×Nat×Code)
 | .seq (.region _ r0 false) (.seq (.region _ r1 false) (.cond (.tmp e) x .skip))=>
  match r0.toList,r1.toList with
  |[o0,o1],[o2,_]=>match o0.dst,o1.dst,o2.dst with
   |some a,some b,some d=>some (a,b,d,e,x)
   |_,_,_=>none
  |_,_=>none
 |_=>none
structure RecFn (P:Program) (g:Nat) (xA:XC) (ty a b d e n:Nat):Prop where
 has:∃fn c x,P.funcs[g]?=some fn∧fn.body=some c∧krk c=some ty∧kqe c=some (a,b,d,e,x)∧kA P x=some xA∧fn.results=#[]∧fn.ntmps=n∧10≤n
 gd:∀t v dd w,(eqGuard .neq ty (.tmp dd) (.const .nilIface) (.iface t v) .nilIface).run P w=.ok () w
 ne:∀t v w,(binOp .neq ty (.iface t v) .nilIface).run P w=.ok (.bool true) w
theorem RecFn.of {P:Program} {g:Nat} {xA:XC} {ty a b d e n:Nat} {fn:Func} (hf:P.funcs[g]?=some fn) (hc:fn.body.bind krk=some ty) (ha:(fn.body.bind kqe).bind (fun q=>(kA P q.2.2.2.2).map fun y=>(q.1,q.2.1,q.2.2.1,q.2.2.2.1,y))=some (a,b,d,e,xA))
  (hr:fn.results=#[]) (hn:fn.ntmps=n) (h10:10≤n) (gd:∀t v dd w,(eqGuard .neq ty (.tmp dd) (.const .nilIface) (.iface t v) .nilIface).run P w=.ok () w)
  (ne:∀t v w,(binOp .neq ty (.iface t v) .nilIface).run P w=.ok (.bool true) w):RecFn P g xA ty a b d e n:=by
 refine⟨?_,gd,ne⟩
 cases hb:fn.body with
 |none=>rw[hb] at hc;cases hc
 | some c=>
  rw[hb] at hc ha;simp only[Option.bind_some] at hc ha;cases hq:kqe c with
  |none=>rw[hq] at ha;cases ha
  |some q=>
   obtain⟨a',b',d',e',x⟩:=q;rw[hq] at ha;simp only[Option.bind_some,Option.map_eq_some_iff] at ha;obtain⟨y,hy,he⟩:=ha;simp only[Prod.mk.injEq] at he;obtain⟨rfl,rfl,rfl,rfl,rfl⟩:=he;exact⟨fn,c,x,hf,hb,hc,hq,hy,hr,hn,h10⟩
end Go.Sx
namespace Go.Sx
open Go
def kmW:Code→Bool
 |.seq _ (.seq _ (.seq _ (.seq (.region _ _ false) .ret)))=>true
 |_=>false
def LastPlain (P:Program) (f:Nat):Prop:=∃fn c,P.funcs[f]?=some fn∧fn.body=some c∧kmW c=true
theorem LastPlain.of {P:Program} {f:Nat} {fn:Func} (hf:P.funcs[f]?=some fn) (hc:fn.body.map kmW=some true):LastPlain P f:=by
 cases hb:fn.body with
 |none=>rw[hb] at hc;cases hc
 |some c=>rw[hb] at hc;exact⟨fn,c,hf,hb,by simpa using hc⟩
end Go.Sx
namespace Go.Sx
open Go
end Go.Sx
namespace Go.Sx
open Go
theorem YieldX.mono {P:Program} {l:Nat} {args:List SV} {s:SS} {K K':SV→SS→Prop} {X X':XE→SS→Prop} (hK:∀v s',K v s'→K' v s') (hX:∀v s',X (.panic v) s'→X' (.panic v) s') (h:YieldX P l args s K X):YieldX P l args s K' X':=by
 refine⟨fun σ w hok=>?_⟩
 obtain⟨fn,tmps,asg,body,h1,hF,h2⟩:=h.out σ w hok;refine⟨fn,tmps,asg,body,h1,hF,fun c cs hr=>?_⟩
 obtain⟨e,w',hR,hs⟩:=h2 c cs hr;refine⟨e,w',?_,hs⟩
 obtain⟨σ',s',k1,k2,k3,k4⟩:=hR;refine⟨σ',s',k1,k2,k3,?_⟩
 cases e with
 |returned v=>obtain⟨v',k5,k6⟩:=k4;exact⟨v',hK _ _ k5,k6⟩
 |panicked ch=>obtain⟨v',k5,k6⟩:=k4;exact⟨v',hX _ _ k5,k6⟩
 |outgrown=>exact k4
theorem YieldX.gen {P:Program} {l:Nat} {args:List SV} {s:SS} {K:SV→SS→Prop} {X:XE→SS→Prop} (h:YieldX P l (genL args) s K X):YieldX P l args s K X:=by
 refine⟨fun σ w hok=>?_⟩
 have:=h.out σ w hok
 rwa [den_genL] at this
end Go.Sx
namespace Go.Sx
open Go
section
variable {O:Ops} {P:Program} {s:SS}
theorem WX.mono {x:XC} {K K':XE→SS→Prop} (hK:∀e s',K e s'→K' e s') (h:WX P x s K):WX P x s K':=
 ⟨fun c hc σ w hok=>wpIn_mono (h.out c hc σ w hok) fun _ _ _ ⟨e',σ',s',k1,k2⟩=>⟨e',σ',s',hK _ _ k1,k2⟩⟩
theorem CallX.mono2 {g:Nat} {args:List SV} {K K':SV→SS→Prop} {X X':XE→SS→Prop} (hK:∀v s',K v s'→K' v s') (hX:∀v s',X (.panic v) s'→X' (.panic v) s') (h:CallX P g args s K X):CallX P g args s K' X':=by
 refine⟨h.go,fun σ w hok=>(h.out σ w hok).mono ?_⟩
 rintro e w' ⟨σ',s',h1,h2,h3,h4⟩;refine⟨σ',s',h1,h2,h3,?_⟩
 cases e with
 |returned v=>obtain⟨v',k1,k2⟩:=h4;exact⟨v',hK _ _ k1,k2⟩
 |panicked ch=>obtain⟨v',k1,k2⟩:=h4;exact⟨v',hX _ _ k1,k2⟩
 |outgrown=>exact h4
theorem kjs {o:XOp} {K K':SV→SS→Prop} {X X':XE→SS→Prop} (hK:∀v s',K v s'→K' v s') (hX:∀v s',X (.panic v) s'→X' (.panic v) s') (h:k7 O P o s K X):k7 O P o s K' X':=by
 cases o
 case call f args=>
  simp only[k7] at h ⊢
  split at h
  ·exact CallX.mono2 hK hX h
  ·exact YieldX.mono hK hX h
  ·exact h
 case icall nm x args=>
  simp only[k7] at h ⊢
  split at h
  ·obtain⟨g,hM,h⟩:=h.out;exact⟨g,hM,CallX.mono2 hK hX h⟩
  ·exact h
 case pnc x=>
  simp only[k7] at h ⊢
  split at h
  ·exact hX _ _ h
  ·exact h
 all_goals exact keg (X:=X) hK h
theorem kgm {o:XOp} {K K':SV→SS→Prop} {X X':XE→SS→Prop} (hK:∀v s',K v s'→K' v s') (hX:∀v s',X (.panic v) s'→X' (.panic v) s') (h:kdu O P o s K X):kdu O P o s K' X':=by
 unfold kdu at h ⊢
 split at h
 ·exact kee (fun v=>hK v _) h
 ·exact kef (fun v=>hK v _) h
 ·exact kjs hK hX h
theorem kbk:∀{l:List jW} {s:SS} {K K':XE→SS→Prop},(∀e s',K e s'→K' e s')→j6 O P l s K→j6 O P l s K'
 |[],_,_,_,hK,h=>hK _ _ h
 |st::rest,s,K,K',hK,h=>by
  unfold j6 at h ⊢
  exact kbQ (kgm (fun v s'=>kcg (kbk hK)) (fun v s'=>hK _ _)) (kbk hK) h
theorem kbT:∀{t:XT} {s:SS} {K K':XE→SS→Prop},(∀e s',K e s'→K' e s')→exT O P t s K→exT O P t s K'
 |.fin,_,_,_,hK,h=>hK _ _ h
 |.step st t,s,K,K',hK,h=>by
  unfold exT at h ⊢
  exact kbQ (kgm (fun v s'=>kcg (kbT hK)) (fun v s'=>hK _ _)) (kbT hK) h
 |.both a b,s,K,K',hK,h=>by
  unfold exT at h ⊢
  exact⟨kbT hK h.1,kbT hK h.2⟩
theorem kbl:∀{x:XC} {s:SS} {K K':XE→SS→Prop},(∀e s',K e s'→K' e s')→ex O P x s K→ex O P x s K'
 |.skip,_,_,_,hK,h=>hK _ _ h
 |.ops l,_,_,_,hK,h=>kbk hK h
 |.tree t,_,_,_,hK,h=>kbT hK h
 |.seq a b,s,K,K',hK,h=>by
  unfold ex at h ⊢
  refine kbl (fun e s' h=>?_) h
  cases e with
  |normal=>exact kbl hK h
  |_=>exact hK _ _ h
 |.cond c a b,s,K,K',hK,h=>by
  unfold ex at h ⊢
  exact kbi (kbl hK) (kbl hK) h
 | .block id b,s,K,K',hK,h=>by
  unfold ex at h ⊢
  refine kbl (fun e s' h=>?_) h
  cases e with
  |exit id'=>
   simp only[keJ] at h ⊢
   split at h
   ·rename_i he;rw[if_pos he];exact hK _ _ h
   ·rename_i he;rw[if_neg he];exact hK _ _ h
  |_=>exact hK _ _ h
 |.loop b,s,K,K',hK,h=>WX.mono hK h
 |.scope b,s,K,K',hK,h=>by
  unfold ex at h ⊢
  exact kbl hK h
 |.range f ps a b,s,K,K',hK,h=>WX.mono hK h
 |.exit id,_,_,_,hK,h=>hK _ _ h
 |.ret,_,_,_,hK,h=>hK _ _ h
 |.bad,_,_,_,_,h=>h
def unr (O:Ops) (P:Program) (b:XC) (K:XE→SS→Prop):Nat→SS→Prop
 |0,_=>False
 |n+1,s=>ex O P b s (kgW (unr O P b K n) K)
theorem WX.unr {b:XC} {K:XE→SS→Prop} (n:Nat) (hw:Words O) (hm:P.follows .mixedOrders=true) (h:unr O P b K n s):WX P (.loop b) s K:=by
 refine kga hw hm (fun m s'=>Sx.unr O P b K m s') (Cv.here ⟨n,h⟩) ?_
 intro m s' hJ;cases m with
 |zero=>exact hJ.elim
 |succ m=>
  refine kbl (fun e s'' h=>?_) hJ
  cases e with
  |normal=>exact Cv.here ⟨m,Nat.lt_succ_self m,h⟩
  |_=>exact h
end
section
variable {P:Program} {s:SS} {S:SS→Prop} {n0:Nat}
def nilTA (j sz t:Nat) (f:Nat→List SV) (s:SS):SS:={ s with t:=s.t.set j (.slice s.h.length .z sz 0 0),h:=s.h++[.bufA t sz 0 f 0] }
theorem kii (σ:Names) (n sz:Nat):den (more σ n none) (.slice n .z sz 0 0)=den (more σ n none) (.val (.slice none 0 0)):=by simp[den,more]
theorem Cv.nilTA (j sz t:Nat) (f:Nat→List SV) (hat:kg4 j s=true) (hsc:scS s True) (h:Cv P n0 (nilTA j sz t f s) S):Cv P n0 s S:=by
 refine⟨fun σ0 s0 w0 σ w hn hok hst=>?_⟩
 obtain⟨h1,h2,h3⟩:=hok.new (B:=.bufA t sz 0 f 0) (p:=none) hsc ⟨Nat.le_refl _,rfl,rfl,rfl,fun _ _=>rfl⟩ (fun q hq=>by cases hq) (.inl ⟨rfl,rfl,rfl⟩);unfold kg4 at hat;split at hat
 rotate_left
 ·cases hat
 rename_i v hv;have hv':=kc3 hat;subst hv';obtain⟨σ2,s2,k1,k2,k3,k4,k5⟩:=h.out σ0 s0 w0 (more σ s.h.length none) w hn ⟨h1.lt,h1.ne,h1.blk,h1.marks,h1.rnd⟩
  (hst.trans ⟨h2.size,h2.os,h2.tape,h2.output,h2.far,h2.len,h2.names,h2.red,h2.own,h2.rd⟩)
 refine⟨σ2,s2,k1,k2,k3,k4.trans ?_,fun hl i hi=>(k5 (by simp[Sx.nilTA];omega) i hi).trans (jk (by omega))⟩
 rw[←h3];unfold act;simp only[Sx.nilTA,alloc];rw[kaV hv (kii σ s.h.length sz)]
def nilBA (b j sz t:Nat) (f:Nat→List SV) (s:SS):SS:=
 { s with h:=(match s.h[b]? with
  |some (.one ty row)=>s.h.set b (.one ty (row.set j (.slice s.h.length .z sz 0 0)))
  |_=>s.h)++[.bufA t sz 0 f 0] }
theorem Cv.nilBA (b j sz t:Nat) (f:Nat→List SV) (hat:kj7 b j s=true) (hsc:scS s True) (h:Cv P n0 (nilBA b j sz t f s) S):Cv P n0 s S:=by
 refine⟨fun σ0 s0 w0 σ w hn hok hst=>?_⟩
 obtain⟨h1,h2,h3⟩:=hok.new (B:=.bufA t sz 0 f 0) (p:=none) hsc ⟨Nat.le_refl _,rfl,rfl,rfl,fun _ _=>rfl⟩ (fun q hq=>by cases hq) (.inl ⟨rfl,rfl,rfl⟩);unfold kj7 at hat;split at hat
 rotate_left
 ·cases hat
 rename_i ty row hb;split at hat
 rotate_left
 ·cases hat
 rename_i v hv;have hv':=kc3 hat;subst hv';have hbl:b<s.h.length:=(List.getElem?_eq_some_iff.1 hb).1;have hb':(alloc (.bufA t sz 0 f 0) s).h[b]?=some (.one ty row):=by simp only[alloc];rw[List.getElem?_append_left hbl];exact hb
 obtain⟨g,hg,hh⟩:=h1.blk b _ hb';obtain⟨h4,h5⟩:=h1.update (B':=.one ty (row.set j (.slice s.h.length .z sz 0 0))) hb' rfl hg rfl (fun e=>by cases e) (fun e=>by cases e) (fun _ _=>rfl) rfl rfl rfl rfl
  ⟨g,rfl,by rw[kaV hv (kii σ s.h.length sz)];exact hh⟩
 have he:({ alloc (.bufA t sz 0 f 0) s with h:=(alloc (.bufA t sz 0 f 0) s).h.set b (.one ty (row.set j (.slice s.h.length .z sz 0 0))) }:SS)=Sx.nilBA b j sz t f s:=by
  simp only[Sx.nilBA,hb,alloc];rw[List.set_append_left _ _ hbl]
 rw[he] at h4 h5;obtain⟨σ2,s2,k1,k2,k3,k4,k5⟩:=h.out σ0 s0 w0 _ w hn h4 (hst.trans (h2.trans h5));refine⟨σ2,s2,k1,k2,k3,k4.trans h3,fun hl i hi=>(k5 (by rw[←he];simp[alloc];omega) i hi).trans (jk (by omega))⟩
theorem kjt {σ:Names} {p:Option (Nat×Nat)} {w:World} {t sz len:Nat} {f:Nat→List SV} (h:holds P σ p w (.arr t sz len f)):holds P σ p w (.bufA t sz len f len):=by
 obtain⟨b,cs,h1,h2,h3,h4⟩:=h;exact .inr ⟨b,cs,h1,h2,Nat.le_of_eq h3.symm,Nat.le_of_eq h3.symm,h4⟩
theorem Cv.intsB (b n:Nat) {t:Nat} {k:IntKind} {l:List Int} (hb:s.h[b]?=some (.ints t k l)) (hn:l.length=n) (h:Cv P n0 { s with h:=s.h.set b (.buf t k l n) } S):Cv P n0 s S:=
 Cv.blockEq b (.ints t k l) (.buf t k l n) hb rfl rfl rfl (fun _ _ _ ⟨g,h1,h2⟩=>.inr ⟨g,[],h1,by simpa using h2,by simp[hn]⟩) h
theorem kij {σ:Names} {p:Option (Nat×Nat)} {w:World} {t sz c:Nat} {row:List SV} (hl:row.length=sz) (h:holds P σ p w (.bufR t sz row c)) (hs:1≤sz):holds P σ p w (.bufA t sz 1 (fun _=>row) c):=by
 rcases h with⟨h1,h2,h3⟩|⟨b,rest,h1,h2,h3⟩
 ·subst h2;simp at hl;omega
 ·refine .inr ⟨b,_,h1,h2,?_,by simpa using h3,fun i hi=>⟨hl,fun j v hv=>?_⟩⟩
  ·simp[ky,hl]
  ·obtain rfl:i=0:=by omega
   have hj:=(List.getElem?_eq_some_iff.1 hv).1;rw[Nat.zero_mul,Nat.zero_add,List.getElem?_toArray,List.getElem?_append_left (by rw[ky,List.length_map];exact hj),jr,hv];rfl
end
end Go.Sx
namespace Go.Sx
open Go
def kcH:Nat→List Nat→List Nat→Nat→Bool
 |0,_,_,_=>true
 |_+1,[],_,_=>false
 |n+1,k::ks,M,i=>if kaM i M then kcH n ks M (i+1) else(if k==i then kcH n ks M (i+1) else false)
theorem kei:∀{n:Nat} {ks M:List Nat} {i:Nat},kcH n ks M i=true→n≤ks.length∧∀j,j<n→i+j∉M→ks[j]?=some (i+j)
 |0,_,_,_,_=>⟨by omega,fun j hj=>by omega⟩
 |_+1,[],_,_,h=>by simp[kcH] at h
 | n + 1,k::ks,M,i,h=>by
  simp only[kcH] at h;have key:kcH n ks M (i+1)=true∧(i∉M→k=i):=by
   split at h
   ·rename_i hm;exact⟨h,fun hn=>absurd (memN_iff.1 hm) hn⟩
   ·split at h
    ·rename_i hk;exact⟨h,fun _=>by simpa using hk⟩
    ·cases h
  obtain⟨h1,h2⟩:=kei key.1;refine⟨by simp;omega,fun j hj hM=>?_⟩
  cases j with
  |zero=>simp;exact key.2 (by simpa using hM)
  |succ j=>
   have:=h2 j (by omega) (by rwa [show i+1+j=i+(j+1) by omega]);simp only[List.getElem?_cons_succ,this];congr 1;omega
theorem kD {P:Program} {f:Nat} {args:List SV} {H:List SB} {kC:SV→List SB→List Nat→Prop}
  (h:Con P f args H (fun v H' R=>∃M ks v2 H2,kjk R M=true∧kcH H.length ks M 0=true∧kdK ks=true∧v=ren (jG ks) 0 v2∧okV (jG ks) 0 v2=true∧kig ks H' ks H2∧kC v2 H2 M)):Con P f args H kC:=by
 refine⟨h.go,fun σ w hok=>(h.out σ w hok).mono ?_⟩
 rintro e w' ⟨σ',v,H',R,⟨M,ks,v2,H2,hs,hk,hd,rfl,hv,hpk,hP⟩,k2,k3,k4⟩;obtain⟨hlen,hB2⟩:=kbj hpk;obtain⟨hk1,hk2⟩:=kei hk;have hrn:∀i k,ks[i]?=some k→rn (jG ks) 0 i=(k,.z):=fun i k hi=>by unfold rn jG;rw[List.getElem?_map,hi];rfl
 have hσ:∀i k,ks[i]?=some k→cut (jG ks) 0 σ' i=σ' k:=fun i k hi=>by
  unfold cut;rw[hrn i k hi]
  show(σ' k).map (fun p=>(p.1,p.2+0))=σ' k
  cases σ' k<;>rfl
 refine⟨cut (jG ks) 0 σ',v2,H2,M,hP,?_,⟨fun i p hi hp=>?_,fun i j B C p q hij hB hC ho hp hq=>?_,fun i B hB=>?_,(fun l hl=>by cases hl),(fun l hl=>by cases hl)⟩,
  ⟨k4.size,k4.os,k4.tape,k4.output,k4.far,?_,fun i hi hR=>?_,(fun i hi=>by cases hi),fun i B p hB ho hp hlt=>?_,rfl⟩⟩
 ·rw[k2,jU (jG ks) 0 σ' _ (fun _=>rfl) v2 hv]
 ·obtain⟨B,hB⟩:∃B,H2[i]?=some B:=⟨_,List.getElem?_eq_getElem hi⟩;obtain⟨k,e1,e2,_⟩:=hB2 i B hB;rw[hσ i k e1] at hp;exact k3.lt k p (by have:=List.getElem?_eq_some_iff.1 e2;exact this.1) hp
 ·obtain⟨k,e1,e2,_⟩:=hB2 i B hB;obtain⟨k',e1',e2',_⟩:=hB2 j C hC;rw[hσ i k e1] at hp;rw[hσ j k' e1'] at hq;refine k3.ne k k' _ _ p q (fun e=>hij ?_) e2 e2' (by rw[jZ,jZ];exact ho) hp hq
  subst e;exact kaJ hd i j k e1 e1'
 ·obtain⟨k,e1,e2,e3⟩:=hB2 i B hB;rw[hσ i k e1];exact(kaT (fun _=>rfl) e3).1 (k3.blk k _ e2)
 ·show H.length≤H2.length
  rw[hlen];exact hk1
 ·have hi:i<H.length:=hi;have h1:=hk2 i hi (fun hm=>hR (by simpa using hm));rw[Nat.zero_add] at h1;rw[hσ i i h1];exact k4.names i hi (fun hr=>hR (kaU hs i hr))
 ·obtain⟨k,e1,e2,_⟩:=hB2 i B hB;rw[hσ i k e1] at hp;exact k4.own k _ p e2 (by rw[jZ];exact ho) hp hlt
theorem Cv.slotEq {P:Program} {n0:Nat} {s:SS} {S:SS→Prop} (j:Nat) {v:SV} (v':SV) (hv:s.t[j]?=some v) (he:∀σ,den σ v'=den σ v) (h:Cv P n0 { s with t:=s.t.set j v' } S):Cv P n0 s S:=by
 refine⟨fun σ0 s0 w0 σ w hn hok hst=>?_⟩
 have ha:act σ { s with t:=s.t.set j v' }=act σ s:=by
  unfold act;rw[kaV hv (he σ)]
 obtain⟨σ2,s2,h1,h2,h3,h4,h5⟩:=h.out σ0 s0 w0 σ w hn ⟨hok.lt,hok.ne,hok.blk,hok.marks,hok.rnd⟩
  ⟨hst.size,hst.os,hst.tape,hst.output,hst.far,hst.len,hst.names,hst.red,hst.own,hst.rd⟩
 exact⟨σ2,s2,h1,h2,h3,h4.trans ha,h5⟩
def kfo (B:SB):SB:=
 match B with
 |.arr t sz len f=>.bufA t sz len f len
 |.bufR t sz row c=>if row.length==sz then(match sz with|0=>.bufR t sz row c|n+1=>.bufA t (n+1) 1 (fun _=>row) c) else .bufR t sz row c
 |B=>B
def kct:List SB→List SB
 |[]=>[]
 |B::l=>kfo B::kct l
theorem kgn:∀(l:List SB) (i:Nat),(kct l)[i]?=(l[i]?).map kfo
 |[],i=>by simp[kct]
 |B::l,0=>by simp[kct]
 |B::l,i+1=>by simp[kct,kgn l i]
theorem kdL:∀(l:List SB),(kct l).length=l.length
 |[]=>rfl
 |B::l=>by simp[kct,kdL l]
theorem kdM (B:SB):own (kfo B)=own B:=by
 unfold kfo;split
 ·rfl
 ·split
  ·split<;>rfl
  ·rfl
 ·rfl
theorem kik {P:Program} {σ:Names} {p:Option (Nat×Nat)} {w:World} {B:SB} (h:holds P σ p w B):holds P σ p w (kfo B):=by
 unfold kfo;split
 ·exact kjt h
 ·split
  ·rename_i hl;split
   ·exact h
   ·exact kij (by simpa using hl) h (by omega)
  ·exact h
 ·exact h
theorem kR {P:Program} {f:Nat} {args:List SV} {H:List SB} {kC:SV→List SB→List Nat→Prop} (h:Con P f args H (fun v H' R=>kC v (kct H') R)):Con P f args H kC:=by
 refine⟨h.go,fun σ w hok=>(h.out σ w hok).mono ?_⟩
 rintro e w' ⟨σ',v,H',R,k1,k2,k3,k4⟩;have hget:∀i B,(kct H')[i]?=some B→∃C,H'[i]?=some C∧B=kfo C:=fun i B hB=>by
  rw[kgn,Option.map_eq_some_iff] at hB;obtain⟨C,h1,h2⟩:=hB;exact⟨C,h1,h2.symm⟩
 refine⟨σ',v,kct H',R,k1,k2,⟨fun i p hi hp=>k3.lt i p (by simpa [kdL] using hi) hp,fun i j B C p q hij hB hC ho=>?_,fun i B hB=>?_,(fun l hl=>by cases hl),(fun l hl=>by cases hl)⟩,
  ⟨k4.size,k4.os,k4.tape,k4.output,k4.far,by simpa [kdL] using k4.len,k4.names,k4.red,fun i B p hB hoB=>?_,rfl⟩⟩
 ·obtain⟨B',hB',rfl⟩:=hget i B hB;obtain⟨C',hC',rfl⟩:=hget j C hC;rw[kdM,kdM] at ho;exact k3.ne i j B' C' p q hij hB' hC' ho
 ·obtain⟨B',hB',rfl⟩:=hget i B hB;exact kik (k3.blk i B' hB')
 ·obtain⟨B',hB',rfl⟩:=hget i B hB;rw[kdM] at hoB;exact k4.own i B' p hB' hoB
end Go.Sx
namespace Go.Sx
open Go
def qC:Nat→List SB→List SB
 |_,[]=>[]
 |0,B::l=>(match B with|.ints t k ls=>.buf t k ls ls.length|B=>B)::l
 |n+1,B::l=>B::qC n l
theorem kfp:∀(n:Nat) (l:List SB) (i:Nat) (B:SB),(qC n l)[i]?=some B→∃C,l[i]?=some C∧(B=C∨∃t k ls,C=.ints t k ls∧B=.buf t k ls ls.length)
 |_,[],i,B,h=>by simp[qC] at h
 |0,C::l,0,B,h=>by
  simp only[qC,List.getElem?_cons_zero,Option.some.injEq] at h ⊢
  refine⟨C,rfl,?_⟩
  split at h
  ·exact .inr ⟨_,_,_,rfl,h.symm⟩
  ·exact .inl h.symm
 |0,C::l,i+1,B,h=>by
  simp only[qC,List.getElem?_cons_succ] at h ⊢
  exact⟨B,h,.inl rfl⟩
 |n+1,C::l,0,B,h=>by
  simp only[qC,List.getElem?_cons_zero,Option.some.injEq] at h ⊢
  exact⟨C,rfl,.inl h.symm⟩
 |n+1,C::l,i+1,B,h=>by
  simp only[qC,List.getElem?_cons_succ] at h ⊢
  exact kfp n l i B h
theorem kcI:∀(n:Nat) (l:List SB),(qC n l).length=l.length
 |_,[]=>by simp[qC]
 |0,B::l=>by simp[qC]
 |n+1,B::l=>by simp[qC,kcI n l]
theorem kmX {P:Program} {f:Nat} {args:List SV} {H:List SB} {kC:SV→List SB→List Nat→Prop} (n:Nat) (h:Con P f args H (fun v H' R=>kC v (qC n H') R)):Con P f args H kC:=by
 refine⟨h.go,fun σ w hok=>(h.out σ w hok).mono ?_⟩
 rintro e w' ⟨σ',v,H',R,k1,k2,k3,k4⟩;have hget:=kfp n H';refine⟨σ',v,qC n H',R,k1,k2,⟨fun i p hi hp=>k3.lt i p (by simpa [kcI] using hi) hp,fun i j B C p q hij hB hC ho=>?_,fun i B hB=>?_,(fun l hl=>by cases hl),(fun l hl=>by cases hl)⟩,
  ⟨k4.size,k4.os,k4.tape,k4.output,k4.far,by simpa [kcI] using k4.len,k4.names,k4.red,fun i B p hB hoB=>?_,rfl⟩⟩
 ·obtain⟨B',hB',e1⟩:=hget i B hB;obtain⟨C',hC',e2⟩:=hget j C hC;have o1:own B=own B':=by rcases e1 with rfl|⟨t,k,ls,rfl,rfl⟩<;>rfl
  have o2:own C=own C':=by rcases e2 with rfl|⟨t,k,ls,rfl,rfl⟩<;>rfl
  rw[o1,o2] at ho;exact k3.ne i j B' C' p q hij hB' hC' ho
 ·obtain⟨B',hB',e1⟩:=hget i B hB;rcases e1 with rfl|⟨t,k,ls,rfl,rfl⟩
  ·exact k3.blk i B hB'
  ·obtain⟨g,h1,h2⟩:=k3.blk i _ hB';exact .inr ⟨g,[],h1,by simpa using h2,by simp⟩
 ·obtain⟨B',hB',e1⟩:=hget i B hB;have o1:own B=own B':=by rcases e1 with rfl|⟨t,k,ls,rfl,rfl⟩<;>rfl
  rw[o1] at hoB;exact k4.own i B' p hB' hoB
end Go.Sx
namespace Go.Sx
open Go
theorem klq {P:Program} {f:Nat} {args:List SV} {s:SS} {K:SV→SS→Prop} {X:XE→SS→Prop} (args':List SV) (t sz:Nat) (g:Nat→List SV) (hsc:scS s True) (hsa:scL s.h.length args=true)
  (he:∀σ,denL (more σ s.h.length none) args'=denL (more σ s.h.length none) args)
  (h:CallX P f args' (alloc (.bufA t sz 0 g 0) s) K X):CallX P f args s K X:=by
 refine⟨h.go,fun σ w hok=>?_⟩
 obtain⟨h1,h2,h3⟩:=hok.new (B:=.bufA t sz 0 g 0) (p:=none) hsc ⟨Nat.le_refl _,rfl,rfl,rfl,fun _ _=>rfl⟩ (fun q hq=>by cases hq) (.inl ⟨rfl,rfl,rfl⟩);have:=h.out _ w h1;rw[qR hok h1 h2,he,sc_denL (fun i hi=>jk hi) args hsa] at this;refine this.mono ?_
 rintro e w' ⟨σ',s',k1,k2,k3,k4⟩;exact⟨σ',s',k1,h2.trans k2,k3.trans h3,k4⟩
end Go.Sx
namespace Go.Sx
open Go Go.ChangeShapes Go.WideShapes Go.RowKit Go.Deep
section
variable {H:Type} {enc:TypeId×Value→H} {P:Program}
end
end Go.Sx
namespace Go.Sx
open Go
theorem kil {P:Program} {f:Nat} {args:List SV} {H:List SB} {kC:SV→List SB→List Nat→Prop}
  (h:CallX P f args (small H []) (fun v s'=>s'=small s'.h s'.r∧kC v s'.h s'.r) (fun _ _=>False)):Con P f args H kC:=by
 refine⟨h.go,fun σ w hok=>?_⟩
 have h1:=h.out σ w hok;have e:rOf σ (small H [])=none:=rfl;rw[e] at h1;refine h1.mono ?_
 rintro e w' ⟨σ',s',k1,k2,k3,k4⟩;cases e with
 |returned v=>
  obtain⟨v',⟨hs,hP⟩,rfl⟩:=k4;refine⟨σ',v',s'.h,s'.r,hP,rfl,?_,?_⟩
  ·rw[←hs];exact k1
  ·rw[←hs];exact k2
 |panicked ch=>obtain⟨v',hX,_⟩:=k4;exact hX.elim
 |outgrown=>exact k4.elim
end Go.Sx
namespace Go.Sx
open Go
theorem koq (a:Value) (xs:Array Value):(#[a]++xs).extract 1 (#[a]++xs).size=xs:=by
 apply Array.ext'
 simp
theorem kke (a:Value) (xs:Array Value):(#[a]++xs)[0]?=some a:=by
 rw[Array.getElem?_append_left (by simp)];rfl
theorem MethIs.of {P:Program} {nm:String} {t g:Nat} (h:∀(v:Value) (w:World),(method (P.types.size+Made.depth) t v nm).run P w=.ok (g,v) w)
  (go:∀(xs:Array Value) (w:World),(callFunc g xs).run P w=.ok (.enter g xs) w):MethIs P nm t g:=by
 refine⟨fun v xs w=>?_,fun v xs w f hf=>?_⟩
 ·have e0:(#[Value.iface t v]++xs)[0]?=some (.iface t v):=kke _ _;simp only[invoke,e0,koq,callMethod,Sem.run_bind];have hp:(program:Sem Program).run P w=.ok P w:=rfl;rw[hp];simp only[Result.andThen_ok,h,go]
 ·have e0:(#[Value.iface t v]++xs)[0]?=some (.iface t v):=kke _ _;simp only[Target.leads,e0,h,Option.some.injEq] at hf;exact hf.symm
end Go.Sx
namespace Go.Sx
open Go
inductive XW where
 |more (x:XC) (r:XW)
 |last (i j:Nat) (k:IntKind) (n:Int) (x:XC)
def kqf:Code→Option (Nat×Nat×IntKind×Int)
 | .region _ ops false=>match ops.toList with
  | [m,d]=>match m.op,d.op with
   |.move (.tmp i),.defer ca=>match m.dst,m.guard,ca.callee,ca.args.toList,d.dst,d.guard with
    |some j,none,.value (.tmp j'),[.const (.int k n)],none,none=>if j'==j then some (i,j,k,n) else none
    |_,_,_,_,_,_=>none
   |_,_=>none
  |_=>none
 |_=>none
def klr (P:Program):Code→Option XW
 | .seq a b=>match kqf a with
  |some (i,j,k,n)=>(kA P b).map (XW.last i j k n)
  |none=>match kA P a,klr P b with
   |some x,some r=>some (.more x r)
   |_,_=>none
 |_=>none
theorem kls {c:Code} {i j:Nat} {k:IntKind} {n:Int} (h:kqf c=some (i,j,k,n)):∃id m d ca,c=.region id #[m,d] false∧m.op=.move (.tmp i)∧m.dst=some j∧m.guard=none ∧
  d.op=.defer ca∧ca.callee=.value (.tmp j)∧ca.args=#[.const (.int k n)]∧d.dst=none∧d.guard=none:=by
 unfold kqf at h;split at h
 rotate_left
 ·cases h
 rename_i id ops;split at h
 rotate_left
 ·cases h
 rename_i m d hops;split at h
 rotate_left
 ·cases h
 rename_i i' ca hmo hd;split at h
 rotate_left
 ·cases h
 rename_i j1 j2 k' n' hmd hmg hcal hargs hdd hdg;split at h
 rotate_left
 ·cases h
 rename_i hj;simp only[Option.some.injEq,Prod.mk.injEq] at h;obtain⟨rfl,rfl,rfl,rfl⟩:=h;simp only[beq_iff_eq] at hj;subst hj;have e1:ops=#[m,d]:=by cases ops;simp only at hops;rw[hops]
 have e2:ca.args=#[.const (.int k' n')]:=by cases he:ca.args;rw[he] at hargs;simp only at hargs;rw[hargs]
 subst e1;exact⟨id,m,d,ca,rfl,hmo,hmd,hmg,hd,hcal,e2,hdd,hdg⟩
structure FnW (P:Program) (f:Nat) (x:XW) (n:Nat) (rs:List Nat):Prop where
 go:∀(xs:Array Value) (w:World),(callFunc f xs).run P w=.ok (.enter f xs) w
 has:∃fn c,P.funcs[f]?=some fn∧fn.body=some c∧klr P c=some x∧fn.ntmps=n∧ke6 P fn.results.toList=some rs
theorem FnW.of {P:Program} {f:Nat} {x:XW} {n:Nat} {rs:List Nat} {fn:Func} (go:∀(xs:Array Value) (w:World),(callFunc f xs).run P w=.ok (.enter f xs) w) (hf:P.funcs[f]?=some fn)
  (hc:fn.body.bind (klr P)=some x) (hn:fn.ntmps=n) (hr:ke6 P fn.results.toList=some rs):FnW P f x n rs:=by
 refine⟨go,?_⟩
 cases hb:fn.body with
 |none=>rw[hb] at hc;cases hc
 |some c=>rw[hb] at hc;exact⟨fn,c,hf,hb,hc,hn,hr⟩
def krm (D:Deferred) (rs:List Nat) (kC:SV→List SB→List Nat→Prop):XE→SS→Prop:=fun e s=>
 match e with
 |.normal=>s.x=[D]∧kbI s.d=true∧kby s rs=true∧kC (ke8 s rs) (qW s.d s.h) s.r
 |.ret=>s.x=[D]∧kbI s.d=true∧kby s rs=true∧kC (ke8 s rs) (qW s.d s.h) s.r
 |_=>False
def kpS (N:SS→Prop) (rs:List Nat) (kC:SV→List SB→List Nat→Prop):XE→SS→Prop:=fun e s=>
 match e with
 |.normal=>N s
 |.ret=>fin rs kC .ret s
 |_=>False
def exW (O:Ops) (P:Program) (g:Nat) (k0:IntKind) (n0:Int) (rs:List Nat) (kC:SV→List SB→List Nat→Prop):XW→SS→Prop
 |.more x r,s=>ex O P x s (kpS (exW O P g k0 n0 rs kC r) rs kC)
 |.last i j k n x,s=>s.d=[]∧s.x=[]∧s.t.getD i .undef=.fn g []∧ltB j s.t.length=true∧k=k0∧n=n0∧∀D,ex O P x { s with t:=s.t.set j (.fn g []),x:=[D] } (krm D rs kC)
theorem kcu {P:Program} {σ:Names} {fn:Func} {R:Ending→World→Prop} {tmps:Array Value} {D:Deferred} {σ0:Names} {s0:SS} {w0:World}:∀(ds:List Nat) (s:SS) (w:World),s.d=ds→kbI ds=true→s.rd=none→Ok P σ s w→Step σ0 s0 w0 σ s w →
  (∀w',Ok P σ (unm s) w'→Step σ0 s0 w0 σ (unm s) w'→LeavesInM (FR P none) 0 P fn tmps R [D] .returning w') →
  LeavesInM (FR P none) 0 P fn tmps R (ds.map (mark σ)++[D]) .returning w
 |[],s,w,hd,_,_,hok,hst,h=>by
  have:unm s=s:=by unfold unm;rw[hd];cases s;simp only at hd;subst hd;rfl
  exact h w (by rw[this];exact hok) (by rw[this];exact hst)
 | l::ds,s,w,hd,hnd,hrd,hok,hst,h=>by
  obtain⟨hl,hnd'⟩:=kfb hnd;obtain⟨_,hB⟩:=hok.marks l (by rw[hd];simp);obtain⟨g,hσ,hh⟩:=hok.blk l _ hB;refine⟨by simp,.inl ⟨g,w.putObj g (.deferred none),?_,?_,?_⟩⟩
  ·simp[mark,hσ]
  ·exact run_takeDeferred hh
  ·have hf:=hok.freed (ds:=ds) (w':=w.putObj g (.deferred none)) hB rfl hσ (fun k hk=>⟨by rw[hd];exact List.mem_cons_of_mem _ hk,fun e=>hl (e▸hk)⟩) (by rw[hrd];simp)
    (fun k hk=>by simp only[World.putObj];rw[Array.getElem?_setIfInBounds_ne (Ne.symm hk)]) (by simp[World.putObj]) rfl rfl rfl
   have e:unm { s with h:=s.h.set l .free,d:=ds }=unm s:=by unfold unm;simp only[hd,qW]
   refine kcu ds { s with h:=s.h.set l .free,d:=ds } _ rfl hnd' hrd hf.1 (hst.trans hf.2) ?_
   intro w' h1 h2;rw[e] at h1 h2;exact h w' h1 h2
theorem klt {P:Program} {Q:Exit→Act→World→Prop} {m d:Oper} {ca:Go.Call} {g i j:Nat} {k:IntKind} {n:Int} {σ:Names} {s:SS} {w:World} {id:Nat} (hr:s.rd=none)
  (hmo:m.op=.move (.tmp i)) (hmd:m.dst=some j) (hmg:m.guard=none) (hd:d.op=.defer ca) (hcal:ca.callee=.value (.tmp j)) (hargs:ca.args=#[.const (.int k n)]) (hdd:d.dst=none) (hdg:d.guard=none) (hi:s.t.getD i .undef=.fn g []) (hj:j<s.t.length)
  (h:Q .normal (act σ { s with t:=s.t.set j (.fn g []),x:={ target:=.fn (.func g) #[],args:=#[.int k n] }::s.x }) w) (hxd:s.d=[]) :
  (Code.region id #[m,d] false).wpIn (FR P (rOf σ s)) 0 P Q (act σ s) w:=by
 have hro:rOf σ s=none:=by simp[rOf,hr]
 rw[hro];refine wpIn_region ?_
 have e1:(act σ s).put m.dst (.func (.func g) #[] #[])=act σ { s with t:=s.t.set j (.fn g []) }:=by
  rw[hmd];have:=j7 σ s (some j) (.fn g []);simpa [put,den,denL] using this
 have hw1:Region.wanted m (yielded #[m,d] (act σ s).tmps)=true:=by simp[Region.wanted,hmg]
 have hrun:(execOp (act σ s).eval m).run P w=.ok (.value (.func (.func g) #[] #[])) w:=by
  have e2:(act σ s).eval (.tmp i)=.func (.func g) #[] #[]:=by
   rw[kdb,hi];simp[den,denL]
  simp only[execOp,hmo,e2];rfl
 have hlist:List.range (#[m,d]:Array Oper).size=[0,1]:=rfl;rw[hlist];have hw2:∀t,Region.wanted d (yielded #[m,d] t)=true:=fun t=>by simp[Region.wanted,hdg]
 have h0:(#[m,d]:Array Oper)[0]?=some m:=rfl;have h1:(#[m,d]:Array Oper)[1]?=some d:=rfl;have hsem:∀t,Oper.semAt (FR P none).round t d=execOp t d:=fun t=>Oper.semAt_none t d
 simp only[wpOpsIn,h0,h1];rw[if_pos hw1];refine jM (.of (fun c hc=>by rw[hmo] at hc;cases hc) (fun c hc=>by rw[hmo] at hc;cases hc)) ?_
 rw[hrun];simp only[Oper.uponIn,e1];rw[if_pos (hw2 _)];have hrun2:(execOp (act σ { s with t:=s.t.set j (.fn g []) }).eval d).run P w=.ok (.defer { target:=.fn (.func g) #[],args:=#[.int k n] }) w:=by
  have e2:(act σ { s with t:=s.t.set j (.fn g []) }).eval (.tmp j)=.func (.func g) #[] #[]:=by
   rw[kdb];simp[hj,den,denL]
  have e3:(act σ { s with t:=s.t.set j (.fn g []) }).eval (.const (.int k n))=.int k n:=rfl;simp only[execOp,hd,resolve,hcal,hargs,e2,Deferred.ofValue];simp[e3]
 refine⟨fun f hf=>(by rw[kal (fun c hc=>by rw[hd] at hc;cases hc)] at hf;cases hf),?_⟩
 rw[hsem,hrun2];simp only[Oper.uponIn,hdd];have e3:({ (act σ { s with t:=s.t.set j (.fn g []) }) with defers:={ target:=.fn (.func g) #[],args:=#[.int k n] }::(act σ { s with t:=s.t.set j (.fn g []) }).defers }:Act)=act σ { s with t:=s.t.set j (.fn g []),x:={ target:=.fn (.func g) #[],args:=#[.int k n] }::s.x }:=by
  simp[act,hxd]
 show Q .normal (Act.put _ none _) w
 rw[show ∀(A:Act) (v:Value),A.put none v=A from fun _ _=>rfl,e3];exact h
theorem kfO {P:Program} {f:Nat} {x:XW} {n:Nat} {rs:List Nat} {args:List SV} {H:List SB} {kC:SV→List SB→List Nat→Prop} {g:Nat} {k0:IntKind} {n0:Int} (hm:P.follows .mixedOrders=true) (hf:FnW P f x n rs)
  (hg:∀(xs:Array Value) (w:World),(callFunc g xs).run P w=.ok (.enter g xs) w)
  (hD:∀w,CallsDIn (FR P none) 0 P g #[.int k0 n0] .returning w fun e u' w'=>(∃v,e=.returned v)∧u'=.returning∧w'=w)
  (h:exW std P g k0 n0 rs kC x { t:=args++List.replicate (n-args.length) .undef,h:=H,r:=[],d:=[],rd:=none }):Con P f args H kC:=by
 obtain⟨fn,c,h1,h2,h3,h4,h5⟩:=hf.has;refine⟨hf.go,fun σ w hok=>?_⟩
 refine callsIn_of_wp_marks h1 h2 ⟨fn,h1⟩ ?_
 have hok':Ok P σ { t:=args++List.replicate (n-args.length) .undef,h:=H,r:=[],d:=[],rd:=none } w:=⟨hok.lt,hok.ne,hok.blk,hok.marks,hok.rnd⟩;have ha:act σ { t:=args++List.replicate (n-args.length) .undef,h:=H,r:=[],d:=[],rd:=none }={ tmps:=(denL σ args).toArray++Array.replicate (fn.ntmps-(denL σ args).toArray.size) undef,defers:=[] }:=by
  simp only[act,kbF,List.map_nil,List.append_nil,h4,List.size_toArray,jF];congr 1
  simp only[ky,List.map_replicate,den];rw[←List.toArray_replicate];simp
 rw[←ha];have key:∀(x:XW) (c:Code) (σ1:Names) (s1:SS) (w1:World),klr P c=some x→exW std P g k0 n0 rs kC x s1→Ok P σ1 s1 w1→Step σ (small H []) w σ1 s1 w1→s1.rd=none →
   c.wpIn (FR P none) 0 P (bodyPostM (FR P none) 0 P fn (kes P σ H w kC)) (act σ1 s1) w1:=by
  intro x;induction x with
  | more x r ih=>
   intro c σ1 s1 w1 hc hx hok1 hst1 hrd1;cases c<;>simp only[klr] at hc<;>try (cases hc;done)
   rename_i a b;split at hc
   ·rename_i hd;rw[Option.map_eq_some_iff] at hc;obtain⟨_,_,hc⟩:=hc;cases hc
   split at hc
   rotate_left
   ·cases hc
   rename_i x' r' ha hb;simp only[Option.some.injEq,XW.more.injEq] at hc;obtain⟨rfl,rfl⟩:=hc;have w2:=kam (kan hm) a x' σ1 s1 w1 _ (Exit.then (b.wpIn (FR P none) 0 P (bodyPostM (FR P none) 0 P fn (kes P σ H w kC))) (bodyPostM (FR P none) 0 P fn (kes P σ H w kC))) ha hx hok1 (fun e' e σ2 s2 a2 w2 hK hok2 hst2 he=>by
    have hrd2:s2.rd=none:=by rw[hst2.rd,hrd1]
    have hst:=hst1.trans hst2;cases e'<;>cases e<;>simp only[qa] at he<;>simp only[kpS] at hK
    ·subst he;exact ih b σ2 s2 w2 hb hK hok2 hst hrd2
    ·subst he;simp only[fin] at hK;split at hK
     rotate_left
     ·exact hK.elim
     rename_i hnd;simp only[Bool.and_eq_true] at hnd;obtain⟨hnd1,hxx⟩:=keb hnd.1;show LeavesInM (FR P none) 0 P fn (act σ2 s2).tmps (kes P σ H w kC) (act σ2 s2).defers .returning w2
     rw[show(act σ2 s2).defers=s2.d.map (mark σ2) by simp only[act,hxx,List.append_nil]];refine kbe s2.d s2 w2 (fun w'' h=>kbJ hok2 h h5 hnd.2) rfl hnd1 hrd2 hok2 hst ?_
     intro w'' ho hs;exact⟨σ2,ke8 s2 rs,qW s2.d s2.h,s2.r,hK,rfl,⟨ho.lt,ho.ne,ho.blk,ho.marks,fun l hl=>by cases hl⟩,⟨hs.size,hs.os,hs.tape,hs.output,hs.far,hs.len,hs.names,hs.red,hs.own,rfl⟩⟩)
   have hf1:rOf σ1 s1=none:=by simp[rOf,hrd1]
   rw[hf1] at w2;exact wpIn_seq w2
  | last i j k m x=>
   intro c σ1 s1 w1 hc hx hok1 hst1 hrd1;cases c<;>simp only[klr] at hc<;>try (cases hc;done)
   rename_i a b;split at hc
   rotate_left
   ·split at hc<;>cases hc
   rename_i i' j' k' m' hd;rw[Option.map_eq_some_iff] at hc;obtain⟨x',hb,hc⟩:=hc;simp only[XW.last.injEq] at hc;obtain⟨rfl,rfl,rfl,rfl,rfl⟩:=hc;obtain⟨id,mo,d,ca,rfl,hmo,hmd,hmg,hdo,hcal,hargs,hdd,hdg⟩:=kls hd;obtain⟨hd1,hx1,hi,hj,rfl,rfl,hx⟩:=hx;have hj:j'<s1.t.length:=by simpa [ltB] using hj
   have hf1:rOf σ1 s1=none:=by simp[rOf,hrd1]
   refine wpIn_seq ?_
   have h3:=klt (P:=P) (Q:=Exit.then (b.wpIn (FR P none) 0 P (bodyPostM (FR P none) 0 P fn (kes P σ H w kC))) (bodyPostM (FR P none) 0 P fn (kes P σ H w kC))) (σ:=σ1) (s:=s1) (w:=w1) (id:=id) hrd1 hmo hmd hmg hdo hcal hargs hdd hdg hi hj ?_ hd1
   ·rw[hf1] at h3;exact h3
   rw[hx1];show b.wpIn (FR P none) 0 P _ (act σ1 { s1 with t:=s1.t.set j' (.fn g []),x:=[{ target:=.fn (.func g) #[],args:=#[.int k' m'] }] }) w1
   have hok3:Ok P σ1 { s1 with t:=s1.t.set j' (.fn g []),x:=[{ target:=.fn (.func g) #[],args:=#[.int k' m'] }] } w1:=⟨hok1.lt,hok1.ne,hok1.blk,hok1.marks,hok1.rnd⟩;have hst3:Step σ (small H []) w σ1 { s1 with t:=s1.t.set j' (.fn g []),x:=[{ target:=.fn (.func g) #[],args:=#[.int k' m'] }] } w1:=⟨hst1.size,hst1.os,hst1.tape,hst1.output,hst1.far,hst1.len,hst1.names,hst1.red,hst1.own,hst1.rd⟩;have w3:=kam (kan hm) b x' σ1 _ w1 _ (bodyPostM (FR P none) 0 P fn (kes P σ H w kC)) hb (hx { target:=.fn (.func g) #[],args:=#[.int k' m'] }) hok3 (fun e' e σ2 s2 a2 w2 hK hok2 hst2 he=>by
    have hrd2:s2.rd=none:=by rw[hst2.rd];exact hrd1
    have hst:=hst3.trans hst2;have tail:(s2.x=[({ target:=.fn (.func g) #[],args:=#[.int k' m'] }:Deferred)]∧kbI s2.d=true∧kby s2 rs=true∧kC (ke8 s2 rs) (qW s2.d s2.h) s2.r)→LeavesInM (FR P none) 0 P fn (act σ2 s2).tmps (kes P σ H w kC) (act σ2 s2).defers .returning w2:=by
     rintro⟨hx2,hnd,hres,hP⟩;rw[show(act σ2 s2).defers=s2.d.map (mark σ2)++[({ target:=.fn (.func g) #[],args:=#[.int k' m'] }:Deferred)] by simp only[act,hx2]];refine kcu s2.d s2 w2 rfl hnd hrd2 hok2 hst (fun w3 ho hs=>?_)
     refine⟨by simp,.inr ⟨fun h=>by simp[FR,Fence.wide] at h,.func g,#[],g,#[.int k' m'],rfl,?_,fun q hq=>?_,?_⟩⟩
     ·simp only[invoke];have:=hg #[.int k' m'] w3;simpa using this
     ·simp only[Target.leads,Option.some.injEq] at hq;rw[←hq];exact kbc hg w3
     ·refine(hD _).mono ?_
      rintro e u' w4 ⟨⟨v,rfl⟩,rfl,rfl⟩;exact⟨_,kbJ hok2 ho h5 hres,σ2,ke8 s2 rs,qW s2.d s2.h,s2.r,hP,rfl,⟨ho.lt,ho.ne,ho.blk,ho.marks,fun l hl=>by cases hl⟩,⟨hs.size,hs.os,hs.tape,hs.output,hs.far,hs.len,hs.names,hs.red,hs.own,rfl⟩⟩
    cases e'<;>cases e<;>simp only[qa] at he<;>simp only[krm] at hK
    ·subst he;exact tail hK
    ·subst he;exact tail hK)
   have hf3:rOf σ1 { s1 with t:=s1.t.set j' (.fn g []),x:=[{ target:=.fn (.func g) #[],args:=#[.int k' m'] }] }=none:=by simp[rOf,hrd1]
   rw[hf3] at w3;exact w3
 exact key x c σ _ w h3 h hok' ⟨(Step.refl σ (small H []) w).size,rfl,rfl,rfl,(Step.refl σ (small H []) w).far,(Step.refl σ (small H []) w).len,(Step.refl σ (small H []) w).names,(Step.refl σ (small H []) w).red,(Step.refl σ (small H []) w).own,rfl⟩ rfl
theorem kim {P:Program} {g:Nat} {fn:Func} (hf:P.funcs[g]?=some fn) (hb:fn.body=some .skip) (hr:fn.results=#[]) (args:Array Value) (w:World) :
  CallsDIn (FR P none) 0 P g args .returning w fun e u' w'=>(∃v,e=.returned v)∧u'=.returning∧w'=w:=by
 refine callsDIn_of_wpSIn hf hb ⟨fn,hf⟩ (fun c₀ cs hmode=>?_)
 refine wpSIn_of_wpIn rfl (wpIn_skip ?_)
 refine⟨rfl,.returning,by rw[←hmode],.tuple #[],?_,⟨_,rfl⟩,rfl,rfl⟩
 simp[results,hr]
end Go.Sx
namespace Go.Sx
open Go
theorem kju {P:Program} {f:Nat} {args:List SV} {H:List SB} {kC:SV→List SB→List Nat→Prop} (t sz:Nat) (g:Nat→List SV)
  (h:Con P f args H (fun v H' R=>kC v H' R∨(∃v2,scV H'.length v=true∧scH H'.length H' True∧(∀σ:Names,σ H'.length=none→den σ v2=den σ v)∧kC v2 (H'++[.bufA t sz 0 g 0]) R))):Con P f args H kC:=by
 refine⟨h.go,fun σ w hok=>(h.out σ w hok).mono ?_⟩
 rintro e w' ⟨σ',v,H',R,hP|⟨v2,hv,hH,hd,hP⟩,k2,k3,k4⟩
 ·exact⟨σ',v,H',R,hP,k2,k3,k4⟩
 ·have hsc:scS (small H' R) True:=by
   unfold scS;rw[if_pos (by rfl)];exact hH
  obtain⟨h1,h2,h3⟩:=k3.new (B:=.bufA t sz 0 g 0) (p:=none) hsc ⟨Nat.le_refl _,rfl,rfl,rfl,fun _ _=>rfl⟩ (fun q hq=>by cases hq) (.inl ⟨rfl,rfl,rfl⟩);refine⟨_,v2,_,R,hP,?_,h1,k4.trans h2⟩
  rw[k2,hd _ qJ,kcA (n:=H'.length) (fun i hi=>jk hi) v hv]
theorem kfq {P:Program} {f:Nat} {args:List SV} {H:List SB} {kC:SV→List SB→List Nat→Prop} (args':List SV) (he:∀σ,denL σ args=denL σ args') (h:Con P f args' H kC):Con P f args H kC:=
 ⟨h.go,fun σ w hok=>by rw[he];exact h.out σ w hok⟩
def kkf (D:List Nat) (js:Nat→Value):SB→SB
 |.one t row=>.one t (kjj D js 0 row)
 |B=>B
def kaK (D:List Nat) (js:Nat→Value):Nat→List SB→List SB
 |_,[]=>[]
 |0,B::l=>kkf D js B::l
 |n+1,B::l=>B::kaK D js n l
theorem kgo (D:List Nat) (js:Nat→Value):∀(n:Nat) (l:List SB) (i:Nat),(kaK D js n l)[i]?=(l[i]?).map (fun B=>if i=n then kkf D js B else B)
 |_,[],i=>by simp[kaK]
 |0,B::l,0=>by simp[kaK]
 |0,B::l,i+1=>by simp[kaK]
 |n+1,B::l,0=>by simp[kaK]
 |n+1,B::l,i+1=>by simp[kaK,kgo D js n l i]
theorem kdN (D:List Nat) (js:Nat→Value):∀(n:Nat) (l:List SB),(kaK D js n l).length=l.length
 |_,[]=>by simp[kaK]
 |0,B::l=>by simp[kaK]
 |n+1,B::l=>by simp[kaK,kdN D js n l]
theorem klu (D:List Nat) (js:Nat→Value) (B:SB):own (kkf D js B)=own B:=by unfold kkf;split<;>rfl
theorem j3 {P:Program} {f:Nat} {args:List SV} {H:List SB} {kC:SV→List SB→List Nat→Prop} (k:Nat) (D:List Nat) (h:Con P f args H (fun v H' R=>kC v H' R∨∀js,kC v (kaK D js k H') R)):Con P f args H kC:=by
 refine⟨h.go,fun σ w hok=>(h.out σ w hok).mono ?_⟩
 rintro e w' ⟨σ',v,H',R,hP|hP,k2,k3,k4⟩
 ·exact⟨σ',v,H',R,hP,k2,k3,k4⟩
 obtain⟨js,hjs⟩:∃js:Nat→Value,∀t row,H'[k]?=some (.one t row)→∀i v,row[i]?=some v→js i=den σ' v:=by
  cases hk:H'[k]? with
  |none=>exact⟨fun _=>.nilFunc,fun t row h=>by cases h⟩
  |some B=>
   cases B
   case one t row=>exact⟨fun i=>den σ' (row.getD i .undef),fun t' row' h i v hv=>by cases h;simp[hv]⟩
   all_goals exact⟨fun _=>.nilFunc,fun t row h=>by cases h⟩
 have hget:∀i B,(kaK D js k H')[i]?=some B→∃C,H'[i]?=some C∧own B=own C∧∀p,holds P σ' p w' C→holds P σ' p w' B:=fun i B hB=>by
  rw[kgo,Option.map_eq_some_iff] at hB;obtain⟨C,h1,rfl⟩:=hB;refine⟨C,h1,?_,fun p hp=>?_⟩
  ·split
   ·exact klu _ _ _
   ·rfl
  ·split
   ·rename_i hik;subst hik;cases C
    case one t row=>
     obtain⟨g,h2,h3⟩:=hp;refine⟨g,h2,?_⟩
     rw[kff row 0 (fun i v hv=>by rw[Nat.zero_add];exact hjs t row h1 i v hv)];exact h3
    all_goals exact hp
   ·exact hp
 refine⟨σ',v,kaK D js k H',R,hP js,k2,⟨fun i p hi hp=>k3.lt i p (by simpa [kdN] using hi) hp,fun i j B C p q hij hB hC ho=>?_,fun i B hB=>?_,(fun l hl=>by cases hl),(fun l hl=>by cases hl)⟩,
  ⟨k4.size,k4.os,k4.tape,k4.output,k4.far,by simpa [kdN] using k4.len,k4.names,k4.red,fun i B p hB hoB=>?_,rfl⟩⟩
 ·obtain⟨B',hB',e1,_⟩:=hget i B hB;obtain⟨C',hC',e2,_⟩:=hget j C hC;rw[e1,e2] at ho;exact k3.ne i j B' C' p q hij hB' hC' ho
 ·obtain⟨B',hB',_,e2⟩:=hget i B hB;exact e2 _ (k3.blk i B' hB')
 ·obtain⟨B',hB',e1,_⟩:=hget i B hB;rw[e1] at hoB;exact k4.own i B' p hB' hoB
end Go.Sx
namespace Go.Sx
open Go
theorem klv {P:Program} {f:Nat} {x:XW} {n:Nat} {rs:List Nat} {args:List SV} {H:List SB} {kC:SV→List SB→List Nat→Prop} {g:Nat} {k0:IntKind} {n0:Int} (hm:P.follows .mixedOrders=true) (hf:FnW P f x n rs)
  (hg:∀(xs:Array Value) (w:World),(callFunc g xs).run P w=.ok (.enter g xs) w)
  (hD:∀w,CallsDIn (FR P none) 0 P g #[.int k0 n0] .returning w fun e u' w'=>(∃v,e=.returned v)∧u'=.returning∧w'=w)
  (h:∀vb vc vw vtoN vofN vaddN vsubN vmaxI vminI vcutN vgd vst vln vrep vsub vonto vsplice vstrEq vbyteV vnotB veqB,
  Words ⟨vb,vc,vw,vtoN,vofN,vaddN,vsubN,vmaxI,vminI,vcutN,vgd,vst,vln,vrep,vsub,vonto,vsplice,vstrEq,vbyteV,vnotB,veqB⟩ →
  vb=bV→vc=cV→(vw=fun k x=>k.wrap x)→(vtoN=fun n=>n.toNat)→(vofN=fun(n:Nat)=>(n:Int))→(vaddN=fun a b=>a+b)→(vsubN=fun a b=>a-b)→(vmaxI=fun x y=>if y>x then y else x) →
  (vminI=fun x y=>if y<x then y else x)→(vcutN=fun i l m=>if m=l then i else i+l)→(vgd=fun l n=>l.getD n 0)→(vst=fun l n v=>l.set n v)→(vln=fun l=>l.length)→(vrep=fun n v=>List.replicate n v) →
  (vsub=fun l i n=>(l.drop i).take n)→(vonto=fun l n xs=>l.take n++xs)→(vsplice=fun l i xs=>l.take i++xs++l.drop (i+xs.length)) →
  (vstrEq=fun a b=>a.map (fun n=>UInt8.ofNat n.toNat)==b.map (fun n=>UInt8.ofNat n.toNat))→(vbyteV=fun n=>((UInt8.ofNat n.toNat).toNat:Int))→(vnotB=fun b=>!b)→(veqB=fun a b=>a==b) →
  exW ⟨vb,vc,vw,vtoN,vofN,vaddN,vsubN,vmaxI,vminI,vcutN,vgd,vst,vln,vrep,vsub,vonto,vsplice,vstrEq,vbyteV,vnotB,veqB⟩ P g k0 n0 rs kC x { t:=args++List.replicate (n-args.length) .undef,h:=H,r:=[],d:=[],rd:=none }):Con P f args H kC:=
 kfO hm hf hg hD (h _ _ _ _ _ _ _ _ _ _ _ _ _ _ _ _ _ _ _ _ _ words rfl rfl rfl rfl rfl rfl rfl rfl rfl rfl rfl rfl rfl rfl rfl rfl rfl rfl rfl rfl rfl)
theorem kmY {P:Program} {f:Nat} {args:List SV} {H:List SB} {kC Post':SV→List SB→List Nat→Prop} (h:Con P f args H kC) (hP:∀v H' R,kC v H' R→∃v',(∀σ,den σ v'=den σ v)∧Post' v' H' R):Con P f args H Post':=by
 refine⟨h.go,fun σ w hok=>(h.out σ w hok).mono ?_⟩
 rintro e w' ⟨σ',v,H',R,hp,k2,k3,k4⟩;obtain⟨v',hv,hp'⟩:=hP v H' R hp;exact⟨σ',v',H',R,hp',by rw[k2,hv],k3,k4⟩
end Go.Sx
