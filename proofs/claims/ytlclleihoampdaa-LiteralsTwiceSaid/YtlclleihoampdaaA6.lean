import Derived.Test.YtlclleihoampdaaA5
import Derived.Test.YtlclleihoampdaaA4
import Derived.Test.YtlclleihoampdaaA2
set_option linter.unusedVariables false
set_option linter.unusedSimpArgs false
namespace Go.Proofs.Ytlclleihoampdaa
@[irreducible] def RunsFrom (k:Nat→Int) (q:Nat→Nat) (B a n:Nat):Prop:=∀s,Srt k q (a+s*B) (min (a+(s+1)*B) n)
@[irreducible] def RunsTo (k:Nat→Int) (q:Nat→Nat) (B a:Nat):Prop:=∃t,a=t*B∧∀s,s<t→Srt k q (s*B) ((s+1)*B)
theorem RunsTo.nil {k:Nat→Int} {q:Nat→Nat} {B:Nat}:RunsTo k q B 0:=by
 unfold RunsTo;exact⟨0,by simp,fun s h=>by omega⟩
theorem RunsTo.next {k:Nat→Int} {q q':Nat→Nat} {B a:Nat} (h:RunsTo k q B a) (hp:PermOn q q' a (a+B)) (hs:Srt k q' a (a+B)):RunsTo k q' B (a+B):=by
 unfold RunsTo at h ⊢
 obtain⟨t,ht,h⟩:=h;refine⟨t+1,by rw[ht,Nat.succ_mul],fun s hst=>?_⟩
 by_cases e:s=t
 ·subst e;rw[Nat.succ_mul,←ht];exact hs
 ·have h1:=h s (by omega);have h2:(s+1)*B≤t*B:=Nat.mul_le_mul_right _ (by omega);intro i j e1 e2 e3;rw[hp.out i (by omega),hp.out j (by omega)];exact h1 i j e1 e2 e3
theorem kgg {k:Nat→Int} {q q':Nat→Nat} {B a n:Nat} (h:RunsTo k q B a) (ha:a≤n) (hn:n<a+B) (hp:PermOn q q' a n) (hs:Srt k q' a n):RunsFrom k q' B 0 n:=by
 unfold RunsTo at h;unfold RunsFrom;obtain⟨t,ht,h⟩:=h;intro s i j e1 e2 e3;rw[Nat.zero_add] at e1 e3;rcases Nat.lt_trichotomy s t with c|c|c
 ·have h2:(s+1)*B≤t*B:=Nat.mul_le_mul_right _ (by omega);rw[hp.out i (by omega),hp.out j (by omega)];exact h s c i j e1 e2 (by omega)
 ·subst c;exact hs i j (by omega) e2 (by omega)
 ·have h2:(t+1)*B≤s*B:=Nat.mul_le_mul_right _ (by omega);rw[Nat.succ_mul] at h2;omega
theorem RunsFrom.two {k:Nat→Int} {q:Nat→Nat} {B a n:Nat} (h:RunsFrom k q B a n):Srt k q a (min (a+B) n)∧Srt k q (a+B) (min (a+2*B) n):=by
 unfold RunsFrom at h;have h0:=h 0;have h1:=h 1;simp only[Nat.zero_mul,Nat.add_zero,Nat.zero_add,Nat.one_mul] at h0 h1;exact⟨h0,h1⟩
theorem RunsFrom.next {k:Nat→Int} {q q':Nat→Nat} {B a n:Nat} (h:RunsFrom k q B a n) (hp:PermOn q q' a (a+2*B)):RunsFrom k q' B (a+2*B) n:=by
 unfold RunsFrom at h ⊢
 intro s i j e1 e2 e3;have h1:=h (s+2) i j;have e4:(s+2)*B=s*B+2*B:=by rw[Nat.add_mul]
 have e5:(s+2+1)*B=(s+1)*B+2*B:=by rw[show s+2+1=(s+1)+2 by omega,Nat.add_mul]
 rw[e4,e5] at h1;rw[hp.out i (by omega),hp.out j (by omega)];exact h1 (by omega) e2 (by omega)
structure Half (k:Nat→Int) (q:Nat→Nat) (B a n:Nat):Prop where
 to:RunsTo k q (2*B) a
 fr:RunsFrom k q B a n
theorem Half.start {k:Nat→Int} {q:Nat→Nat} {B n:Nat} (h:RunsFrom k q B 0 n):Half k q B 0 n:=⟨RunsTo.nil,h⟩
theorem Half.next {k:Nat→Int} {q q':Nat→Nat} {B a n:Nat} (h:Half k q B a n) (hp:PermOn q q' a (a+2*B)) (hs:Srt k q' a (a+2*B)):Half k q' B (a+2*B) n:=⟨h.to.next hp hs,h.fr.next hp⟩
theorem Half.pre {k:Nat→Int} {q:Nat→Nat} {B a n b:Nat} (h:Half k q B a n) (hb:b=min (a+2*B) n) (hm:a+B≤n):Srt k q a (a+B)∧Srt k q (a+B) b:=by
 obtain⟨h1,h2⟩:=h.fr.two;rw[Nat.min_eq_left hm] at h1;rw[hb];exact⟨h1,h2⟩
theorem Half.fin1 {k:Nat→Int} {q q':Nat→Nat} {B a n:Nat} (h:Half k q B a n) (ha:a≤n) (hn:n<a+2*B) (hp:PermOn q q' a n) (hs:Srt k q' a n):RunsFrom k q' (2*B) 0 n:=kgg h.to ha hn hp hs
theorem Half.fin2 {k:Nat→Int} {q:Nat→Nat} {B a n:Nat} (h:Half k q B a n) (ha:a≤n) (hn:n<a+2*B) (hb:n≤a+B):RunsFrom k q (2*B) 0 n:=by
 obtain⟨h1,h2⟩:=h.fr.two;rw[Nat.min_eq_right hb] at h1;exact kgg h.to ha hn (PermOn.refl _ _ _) h1
theorem RunsFrom.done {k:Nat→Int} {q:Nat→Nat} {B n:Nat} (h:RunsFrom k q B 0 n) (hb:n≤B):Srt k q 0 n:=by
 obtain⟨h1,_⟩:=h.two;rw[Nat.zero_add,Nat.min_eq_right hb] at h1;exact h1
end Go.Proofs.Ytlclleihoampdaa
namespace Go.Proofs.Ytlclleihoampdaa
open Go Go.Sx Go.Proofs
section
attribute [local irreducible] St Srt
theorem kpO {x y:Int} {i j:Nat} (h1:x=i) (h2:y=j):cV .leq x y=decide (i≤j):=by rw[kqk,decide_eq_decide];omega
set_option maxRecDepth 100000 in
set_option maxHeartbeats 4000000 in
theorem kkL (k:Nat→Int) (x l c p:Nat→Nat) (N C cap:Nat) (hN:N≤100000) (hst:St k p) :
  Con Try.prog 136 [.slice 0 .z 2 N cap,.int .i64 N,.fn 131 [.ptr 1 .z 1 0]] [kQ k x l c N C p,.one 202 [.fn 115 []]]
  (fun v H R=>v=.tup []∧R=[]∧∃q,(PermOn p q 0 N∧St k q∧Srt k q 0 N)∧H=[kQ k x l c N C q,.one 202 [.fn 115 []]]):=by
 have hins:∀(q:Nat→Nat) (aI bI:Int) (a b:Nat),aI=a→bI=b→a≤b→b≤N→St k q→Con Try.prog 138 [.slice 0 .z 2 N cap,.int .i64 aI,.int .i64 bI,.fn 131 [.ptr 1 .z 1 0]] [kQ k x l c N C q,.one 202 [.fn 115 []]]
   (fun v H R=>v=.tup []∧R=[]∧∃r,(PermOn q r a b∧St k r∧Srt k r a b)∧H=[kQ k x l c N C r,.one 202 [.fn 115 []]]):=fun q aI bI a b e1 e2 g1 g2 g3=>by
  subst e1 e2;exact kpM k x l c q N C cap a b hN g1 g2 g3
 have hmrg:∀(q:Nat→Nat) (aI mI bI:Int) (a m b:Nat),aI=a→mI=m→bI=b→a<m→m<b→b≤N→St k q→Srt k q a m∧Srt k q m b→Con Try.prog 139 [.slice 0 .z 2 N cap,.int .i64 aI,.int .i64 mI,.int .i64 bI,.fn 131 [.ptr 1 .z 1 0]] [kQ k x l c N C q,.one 202 [.fn 115 []]]
   (fun v H R=>v=.tup []∧R=[]∧∃r,(PermOn q r a b∧St k r∧Srt k r a b)∧H=[kQ k x l c N C r,.one 202 [.fn 115 []]]):=fun q aI mI bI a m b e1 e2 e3 g1 g2 g3 g4 g5=>by
  subst e1 e2 e3;exact km8 k x l c N C cap hN (b-a) q a m b (Nat.le_refl _) g1 g2 g3 g4 g5.1 g5.2
 refine kj (kA 2 (by simp) (km (kg kr krE ?_)))
 intro vb vc _ _ _ _ _ _ _ _ _ _ _ _ _ _ _ _ _ _ _ hw qb qc _ _ _ _ _ _ _ _ _ _ _ _ _ _ _ _ _ _ _;have hm:=kr;generalize Try.prog=P at *;have hadd:∀(x y:Int) (i j:Nat),x=i→y=j→i+j<1000000→vb .add .i64 x y=((i+j:Nat):Int):=fun x y i j h1 h2 h=>by rw[qb,kh (by omega) (by omega)];omega
 have hmul:∀(x:Int) (i:Nat),x=i→i<1000000→vb .mul .i64 2 x=((2*i:Nat):Int)∧vb .mul .i64 x 2=((2*i:Nat):Int):=fun x i h1 h=>by rw[qb,qV (by omega) (by omega),qV (by omega) (by omega)];omega
 have hlss:∀(x y:Int) (i j:Nat),x=i→y=j→vc .lss x y=decide (i<j):=fun x y i j h1 h2=>by rw[qc];exact khI h1 h2
 have hleq:∀(x y:Int) (i j:Nat),x=i→y=j→vc .leq x y=decide (i≤j):=fun x y i j h1 h2=>by rw[qc];exact kpO h1 h2
 generalize hNI0:(N:Int)=NI at *;have hNI:NI=(N:Int):=hNI0.symm;clear hNI0;have hinv0:(0:Int)=((0:Nat):Int)∧(20:Int)=((0+20:Nat):Int)∧0≤N∧PermOn p p 0 N∧St k p∧RunsTo k p 20 0:=⟨rfl,rfl,Nat.zero_le _,PermOn.refl _ _ _,hst,RunsTo.nil⟩;cbv;refine kl (α:=Int×Int×Nat×(Nat→Nat)) [11,12,13,14,15,16,17,18,19,20,21,22] []
  (fun(aI,bI,a,q)=>[(7,.int .i64 aI),(8,.int .i64 bI)])
  (fun(aI,bI,a,q)=>[(0,kQ k x l c N C q)])
  (fun(aI,bI,a,q)=>aI=a∧bI=((a+20:Nat):Int)∧a≤N∧PermOn p q 0 N∧St k q∧RunsTo k q 20 a)
  (fun(aI,bI,a,q)=>N-a) hw hm ?_ ?_
 ·refine Cv.genAt [7,8] [] (Cv.fold [11,12,13,14,15,16,17,18,19,20,21,22] 2 [] (by exact Nat.le_refl _) (by exact Nat.le_of_ble_eq_true rfl) (by rfl) (by cbv) ?_)
  intro js;exact⟨(_,_,0,_),hinv0,js,rfl⟩
 rintro⟨aI,bI,a,q⟩ js ⟨g1,g2,g3,g4,g5,g6⟩;clear hinv0;have hc1:=hleq bI NI (a+20) N g2 hNI;by_cases hb:a+20≤N
 ·have hc2:vc .leq bI NI=true:=by rw[hc1];exact decide_eq_true hb
  have hcall:=hins q aI bI a (a+20) g1 g2 (by omega) hb g5;have hnx:=hadd bI 20 (a+20) 20 g2 rfl (by omega);have hfin:∀r,PermOn q r a (a+20)→St k r→Srt k r a (a+20)→(bI=((a+20:Nat):Int)∧vb .add .i64 bI 20=((a+20+20:Nat):Int)∧a+20≤N∧PermOn p r 0 N∧St k r∧RunsTo k r 20 (a+20))∧N-(a+20)<N-a:=fun r h1 h2 h3=>
   ⟨⟨g2,hnx,hb,g4.trans (h1.wide (Nat.zero_le _) hb),h2,g6.next h1 h3⟩,by omega⟩
  clear hnx hc1 hins hmrg g1 g2 g3 g4 g5 g6 hadd hmul hlss hleq;generalize a+20=b at *;generalize @PermOn=PO at *;cbv;rw[hc2];cbv;refine ka (ρ:=[(0,.z),(1,.z)]) hcall ⟨by rfl,by rfl,by rfl,by cbv;rw[kD];((repeat' first|(refine And.intro ?_ ?_)|exact trivial|exact⟨Nat.le_refl _⟩|exact kb _|exact fun _=>rfl|(simp only[renL3];done)|(show SB.roA _ _ _=SB.roA _ _ _;rfl)|exact funext fun _=>rfl)<;>rfl)⟩ ?_
  rintro v H R js2 ⟨rfl,rfl,r,⟨z1,z2,z3⟩,rfl⟩;cbv;(repeat refine And.intro (fun _=>rfl) ?_);rw[kD];cbv;have hf:=hfin r z1 z2 z3;refine Cv.fold [11,12,13,14,15,16,17,18,19,20,21,22] 2 [] (by exact Nat.le_refl _) (by exact Nat.le_of_ble_eq_true rfl) (by rfl) (by cbv) ?_
  intro js3;exact⟨(_,_,b,_),hf,js3,rfl⟩
 ·have hc2:vc .leq bI NI=false:=by rw[hc1];exact decide_eq_false hb
  have hcall:=hins q aI NI a N g1 hNI g3 (Nat.le_refl _) g5;have hfin:∀r,PermOn q r a N→St k r→Srt k r a N→(20:Int)=((20:Nat):Int)∧1≤20∧20≤2*N+20∧PermOn p r 0 N∧St k r∧RunsFrom k r 20 0 N:=fun r h1 h2 h3=>
   ⟨rfl,by omega,by omega,g4.trans (h1.wide (Nat.zero_le _) (Nat.le_refl _)),h2,kgg g6 g3 (by omega) h1 h3⟩
  clear hc1 hins g1 g2 g4 g5 g6;cbv;rw[hc2];cbv;refine ka (ρ:=[(0,.z),(1,.z)]) hcall ⟨by rfl,by rfl,by rfl,by cbv;rw[kD];((repeat' first|(refine And.intro ?_ ?_)|exact trivial|exact⟨Nat.le_refl _⟩|exact kb _|exact fun _=>rfl|(simp only[renL3];done)|(show SB.roA _ _ _=SB.roA _ _ _;rfl)|exact funext fun _=>rfl)<;>rfl)⟩ ?_
  rintro v H R js2 ⟨rfl,rfl,r,⟨z1,z2,z3⟩,rfl⟩;cbv;(repeat refine And.intro (fun _=>rfl) ?_);rw[kD];cbv;have hinv:=hfin r z1 z2 z3;clear hfin hcall hc2 z1 z2 z3 hb g3;refine kl (α:=Int×Nat×(Nat→Nat)) ([7,8,9]++[28,29,30,31,32,33,34,35,36,37,38,39,40,41,42,43,44,45,46,47,48,49,50,51,52,53,54,55,56,57,58,59,60,61,62]) []
   (fun(sI,s,q)=>[(6,.int .i64 sI)])
   (fun(sI,s,q)=>[(0,kQ k x l c N C q)])
   (fun(sI,s,q)=>sI=s∧1≤s∧s≤2*N+20∧PermOn p q 0 N∧St k q∧RunsFrom k q s 0 N)
   (fun(sI,s,q)=>N-s) hw hm ?_ ?_
  ·refine Cv.genAt [6] [] (Cv.fold ([7,8,9]++[28,29,30,31,32,33,34,35,36,37,38,39,40,41,42,43,44,45,46,47,48,49,50,51,52,53,54,55,56,57,58,59,60,61,62]) 2 [] (by exact Nat.le_refl _) (by exact Nat.le_of_ble_eq_true rfl) (by rfl) (by cbv) ?_)
   intro js;exact⟨(_,20,_),hinv,js,rfl⟩
  rintro⟨sI,s,q⟩ js ⟨g1,g2,g3,g4,g5,g6⟩;clear hinv;have hc1:=hlss sI NI s N g1 hNI;by_cases hs:s<N
  rotate_left
  ·have hc2:vc .lss sI NI=false:=by rw[hc1];exact decide_eq_false hs
   have hfin:PermOn p q 0 N∧St k q∧Srt k q 0 N:=⟨g4,g5,g6.done (Nat.le_of_not_lt hs)⟩;clear hc1 g4 g5 g6 hmrg g3;generalize @PermOn=PO at *;cbv;rw[hc2];cbv;exact⟨q,hfin,rfl⟩
  ·have hc2:vc .lss sI NI=true:=by rw[hc1];exact decide_eq_true hs
   have hm1:=(hmul sI s g1 (by omega)).1;have hm2:=(hmul sI s g1 (by omega)).2;have hW3:∀W,W=2*s→1≤W∧W≤2*N+20∧N-W<N-s:=fun W h=>by omega
   have hinv:(0:Int)=((0:Nat):Int)∧vb .mul .i64 2 sI=((0+2*s:Nat):Int)∧0≤N∧PermOn p q 0 N∧St k q∧Half k q s 0 N:=⟨rfl,by rw[Nat.zero_add];exact hm1,Nat.zero_le _,g4,g5,Half.start g6⟩;clear g4 g5 g6 hc1 g3;cbv;rw[hc2];cbv;refine kl (α:=Int×Int×Nat×(Nat→Nat)) [33,34,35,36,37,38,39,40,41,42,43,44,45,46,47,48] []
    (fun(aI,bI,a,q)=>[(7,.int .i64 aI),(8,.int .i64 bI)])
    (fun(aI,bI,a,q)=>[(0,kQ k x l c N C q)])
    (fun(aI,bI,a,q)=>aI=a∧bI=((a+2*s:Nat):Int)∧a≤N∧PermOn p q 0 N∧St k q∧Half k q s a N)
    (fun(aI,bI,a,q)=>N-a) hw hm ?_ ?_
   ·refine Cv.genAt [7,8] [] (Cv.fold [33,34,35,36,37,38,39,40,41,42,43,44,45,46,47,48] 2 [] (by exact Nat.le_refl _) (by exact Nat.le_of_ble_eq_true rfl) (by rfl) (by cbv) ?_)
    intro js2;exact⟨(_,_,0,_),hinv,js2,rfl⟩
   rintro⟨aI,bI,a,q⟩ js2 ⟨f1,f2,f3,f4,f5,f6⟩;clear hinv;have hc3:=hleq bI NI (a+2*s) N f2 hNI;have has:=hadd aI sI a s f1 g1 (by omega);by_cases hb:a+2*s≤N
   ·have hc4:vc .leq bI NI=true:=by rw[hc3];exact decide_eq_true hb
    have hcall:=hmrg q aI (vb .add .i64 aI sI) bI a (a+s) (a+2*s) f1 has f2 (by omega) (by omega) hb f5 (f6.pre (Nat.min_eq_left hb).symm (by omega));have hnx:=hadd bI (vb .mul .i64 2 sI) (a+2*s) (2*s) f2 (by rw[hm1]) (by omega);have hfin:∀r,PermOn q r a (a+2*s)→St k r→Srt k r a (a+2*s)→(bI=((a+2*s:Nat):Int)∧vb .add .i64 bI (vb .mul .i64 2 sI)=((a+2*s+2*s:Nat):Int)∧a+2*s≤N∧PermOn p r 0 N∧St k r∧Half k r s (a+2*s) N)∧N-(a+2*s)<N-a:=fun r h1 h2 h3=>
     ⟨⟨f2,hnx,hb,f4.trans (h1.wide (Nat.zero_le _) hb),h2,f6.next h1 h3⟩,by omega⟩
    obtain⟨W,hW⟩:∃W,W=a+2*s:=⟨_,rfl⟩;rw[←hW] at hcall hfin;clear hnx hc3 hmrg f1 f2 f3 f4 f5 f6 hadd hmul hlss hleq has hm1 hm2 hb hW;generalize @PermOn=PO at *;cbv;rw[hc4];cbv;refine ka (ρ:=[(0,.z),(1,.z)]) hcall ⟨by rfl,by rfl,by rfl,by cbv;rw[kD];((repeat' first|(refine And.intro ?_ ?_)|exact trivial|exact⟨Nat.le_refl _⟩|exact kb _|exact fun _=>rfl|(simp only[renL3];done)|(show SB.roA _ _ _=SB.roA _ _ _;rfl)|exact funext fun _=>rfl)<;>rfl)⟩ ?_
    rintro v H R js3 ⟨rfl,rfl,r,⟨z1,z2,z3⟩,rfl⟩;cbv;(repeat refine And.intro (fun _=>rfl) ?_);rw[kD];cbv;have hf:=hfin r z1 z2 z3;refine Cv.fold [33,34,35,36,37,38,39,40,41,42,43,44,45,46,47,48] 2 [] (by exact Nat.le_refl _) (by exact Nat.le_of_ble_eq_true rfl) (by rfl) (by cbv) ?_
    intro js4;exact⟨(_,_,W,_),hf,js4,rfl⟩
   ·have hc4:vc .leq bI NI=false:=by rw[hc3];exact decide_eq_false hb
    have hc5:=hlss (vb .add .i64 aI sI) NI (a+s) N has hNI;obtain⟨W,hW⟩:∃W,W=2*s:=⟨_,rfl⟩;have hfinA:∀r,PermOn q r a N→St k r→Srt k r a N→(vb .mul .i64 sI 2=(W:Int)∧1≤W∧W≤2*N+20∧PermOn p r 0 N∧St k r∧RunsFrom k r W 0 N)∧N-W<N-s:=fun r h1 h2 h3=>
     ⟨⟨by rw[hm2,hW],(hW3 W hW).1,(hW3 W hW).2.1,f4.trans (h1.wide (Nat.zero_le _) (Nat.le_refl _)),h2,by rw[hW];exact f6.fin1 f3 (by omega) h1 h3⟩,(hW3 W hW).2.2⟩
    by_cases hms:a+s<N
    ·have hc6:vc .lss (vb .add .i64 aI sI) NI=true:=by rw[hc5];exact decide_eq_true hms
     have hcall:=hmrg q aI (vb .add .i64 aI sI) NI a (a+s) N f1 has hNI (by omega) hms (Nat.le_refl _) f5 (f6.pre (by omega) (by omega));clear hW3 hc5 hc3 hmrg f1 f2 f3 f4 f5 f6 hadd hmul hlss hleq has hm1 hm2 hb hW hms;generalize @PermOn=PO at *;cbv;rw[hc4];cbv;rw[hc6];cbv;refine ka (ρ:=[(0,.z),(1,.z)]) hcall ⟨by rfl,by rfl,by rfl,by cbv;rw[kD];((repeat' first|(refine And.intro ?_ ?_)|exact trivial|exact⟨Nat.le_refl _⟩|exact kb _|exact fun _=>rfl|(simp only[renL3];done)|(show SB.roA _ _ _=SB.roA _ _ _;rfl)|exact funext fun _=>rfl)<;>rfl)⟩ ?_
     rintro v H R js3 ⟨rfl,rfl,r,⟨z1,z2,z3⟩,rfl⟩;cbv;(repeat refine And.intro (fun _=>rfl) ?_);rw[kD];cbv;have hf:=hfinA r z1 z2 z3;refine Cv.fold ([7,8,9]++[28,29,30,31,32,33,34,35,36,37,38,39,40,41,42,43,44,45,46,47,48,49,50,51,52,53,54,55,56,57,58,59,60,61,62]) 2 [] (by exact Nat.le_refl _) (by exact Nat.le_of_ble_eq_true rfl) (by rfl) (by cbv) ?_
     intro js4;exact⟨(_,W,_),hf,js4,rfl⟩
    ·have hc6:vc .lss (vb .add .i64 aI sI) NI=false:=by rw[hc5];exact decide_eq_false hms
     have hf:(vb .mul .i64 sI 2=(W:Int)∧1≤W∧W≤2*N+20∧PermOn p q 0 N∧St k q∧RunsFrom k q W 0 N)∧N-W<N-s:=⟨⟨by rw[hm2,hW],(hW3 W hW).1,(hW3 W hW).2.1,f4,f5,by rw[hW];exact f6.fin2 f3 (by omega) (by omega)⟩,(hW3 W hW).2.2⟩;clear hfinA hW3 hc5 hc3 hmrg f1 f2 f3 f4 f5 f6 hadd hmul hlss hleq has hm1 hm2 hb hW hms;generalize @PermOn=PO at *;cbv;rw[hc4];cbv;rw[hc6];cbv;refine Cv.fold ([7,8,9]++[28,29,30,31,32,33,34,35,36,37,38,39,40,41,42,43,44,45,46,47,48,49,50,51,52,53,54,55,56,57,58,59,60,61,62]) 2 [] (by exact Nat.le_refl _) (by exact Nat.le_of_ble_eq_true rfl) (by rfl) (by cbv) ?_
     intro js4;exact⟨(_,W,_),hf,js4,rfl⟩
set_option maxRecDepth 100000 in
theorem km9 (k:Nat→Int) (x l c p:Nat→Nat) (N C cap:Nat) (hN:N≤100000) (hst:St k p) :
  Con Try.prog 130 [.slice 0 .z 2 N cap,.fn 131 [.ptr 1 .z 1 0]] [kQ k x l c N C p,.one 202 [.fn 115 []]]
  (fun v H R=>v=.tup []∧R=[]∧∃q,(PermOn p q 0 N∧St k q∧Srt k q 0 N)∧H=[kQ k x l c N C q,.one 202 [.fn 115 []]]):=by
 have hcall:=kkL k x l c p N C cap hN hst;refine kj (kA 2 (by simp) (km (kg kr krA ?_)))
 intro _ _ _ _ vofN _ _ _ _ _ _ _ _ _ _ _ _ _ _ _ _ _ _ _ _ _ qofN _ _ _ _ _ _ _ _ _ _ _ _ _ _ _ _;have hm:=kr;generalize Try.prog=P at *;have hof:vofN N=(N:Int):=by rw[qofN]
 generalize hNI:(N:Int)=NI at *;generalize @PermOn=PO at *;cbv;rw[hof];refine ka (ρ:=[(0,.z),(1,.z)]) hcall ⟨by rfl,by rfl,by rfl,by cbv;rw[kD];((repeat' first|(refine And.intro ?_ ?_)|exact trivial|exact⟨Nat.le_refl _⟩|exact kb _|exact fun _=>rfl|(simp only[renL3];done)|(show SB.roA _ _ _=SB.roA _ _ _;rfl)|exact funext fun _=>rfl)<;>rfl)⟩ ?_
 rintro v H R js2 ⟨rfl,rfl,r,hr,rfl⟩;cbv;(repeat refine And.intro (fun _=>rfl) ?_);rw[kD];exact⟨r,hr,rfl⟩
set_option maxRecDepth 100000 in
theorem kkM (k:Nat→Int) (x l c p:Nat→Nat) (N C cap:Nat) (hN:N≤100000) (hst:St k p) :
  Con Try.prog 116 [.slice 0 .z 2 N cap,.fn 115 []] [kQ k x l c N C p]
  (fun v H R=>v=.slice 0 .z 2 N cap∧R=[]∧∃q,(PermOn p q 0 N∧St k q∧Srt k q 0 N)∧H=[kQ k x l c N C q]):=by
 have hcall:=km9 k x l c p N C cap hN hst;refine kj (kA 1 (by simp) (km (kg kr krv ?_)))
 intro _ _ _ _ _ _ _ _ _ _ _ _ _ _ _ _ _ _ _ _ _ _ _ _ _ _ _ _ _ _ _ _ _ _ _ _ _ _ _ _ _ _ _;have hm:=kr;generalize Try.prog=P at *;generalize @PermOn=PO at *;cbv;repeat refine And.intro (fun _=>rfl) ?_
 refine ka (ρ:=[(0,.z),(1,.z)]) hcall ⟨by rfl,by rfl,by rfl,by cbv;rw[kD];((repeat' first|(refine And.intro ?_ ?_)|exact trivial|exact⟨Nat.le_refl _⟩|exact kb _|exact fun _=>rfl|(simp only[renL3];done)|(show SB.roA _ _ _=SB.roA _ _ _;rfl)|exact funext fun _=>rfl)<;>rfl)⟩ ?_
 rintro v H R js2 ⟨rfl,rfl,r,hr,rfl⟩;cbv;(repeat refine And.intro (fun _=>rfl) ?_);rw[kD];exact⟨r,hr,rfl⟩
end
end Go.Proofs.Ytlclleihoampdaa
namespace Go.Proofs.Ytlclleihoampdaa
theorem kjA:∀(N:Nat) (f:Nat→Nat),(∀i,i<N→f i<N)→(∀i j,i<N→j<N→f i=f j→i=j)→∀y,y<N→∃i,i<N∧f i=y:=by
  intro N;induction N with
  |zero=>intro f _ _ y hy;omega
  | succ N ih=>
    intro f h1 h2 y hy;by_cases hN:y=f N
    · exact⟨N,by omega,hN.symm⟩
    · have hfN:=h1 N (by omega)
      have key:=ih (fun i=>if f i=N then f N else f i) (fun i hi=>by
          have a1:=h1 i (by omega);have a2:=h2 i N (by omega) (by omega);split
          · rename_i e
            by_cases e2:f N=N
            · exact absurd (a2 (e.trans e2.symm)) (by omega)
            · omega
          · omega) (fun i j hi hj e=>by
          have a1:=h2 i j (by omega) (by omega);have a2:=h2 i N (by omega) (by omega);have a3:=h2 j N (by omega) (by omega);repeat' split at e
          · exact a1 (by omega)
          · exact absurd (a3 (by omega)) (by omega)
          · exact absurd (a2 (by omega)) (by omega)
          · exact a1 e)
      by_cases hyN:y=N
      · have hlt:f N<N:=by omega
        obtain⟨i,hi,e⟩:=key (f N) hlt;split at e
        · rename_i e2;exact⟨i,by omega,by omega⟩
        · exact absurd (h2 i N (by omega) (by omega) e) (by omega)
      · obtain⟨i,hi,e⟩:=key y (by omega)
        split at e
        · omega
        · exact⟨i,by omega,e⟩

structure RowQ (n D:Nat) (k0:Nat→Int) (q:Nat→Nat):Prop where
  lt:∀i,i<n+D→q i<n+D
  inj:∀i j,i<n+D→j<n+D→q i=q j→i=j
  srt:∀i j,i<j→j<n+D→k0 (q i)≤k0 (q j)
  st:∀i j,i<j→j<n+D→k0 (q i)=k0 (q j)→q i<q j
  coins:∀i j,i<j→j<n→k0 i≤k0 j
  packs:∀i j,n≤i→i<j→j<n+D→k0 i≤k0 j
theorem RowQ.meet {n D:Nat} {k0:Nat→Int} {q:Nat→Nat} (h:RowQ n D k0 q):∀y,y<n+D→∃i,i<n+D∧q i=y:=kjA (n+D) q h.lt h.inj
theorem RowQ.cut {n D:Nat} {k0:Nat→Int} {q:Nat→Nat} (h:RowQ n D k0 q):∀m,m≤n+D→∃c d,c+d=m∧c≤n∧d≤D∧(∀y,(y<c∨(n≤y∧y<n+d))↔∃i,i<m∧q i=y):=by
  intro m;induction m with
  |zero=>intro _;exact⟨0,0,rfl,by omega,by omega,fun y=>⟨fun h=>by omega,fun⟨i,hi,_⟩=>by omega⟩⟩
  | succ m ih=>
    intro hm;obtain⟨c,d,e1,e2,e3,e4⟩:=ih (by omega);have hq:=h.lt m (by omega);have hnot:¬(q m<c∨(n≤q m∧q m<n+d)):=fun hh=>by
      obtain⟨i,hi,e⟩:=(e4 (q m)).1 hh;have:=h.inj i m (by omega) (by omega) e;omega
    have later:∀y,y<n+D→¬(y<c∨(n≤y∧y<n+d))→y≠q m→∃i,m<i∧i<n+D∧q i=y:=fun y hy hno hne=>by
      obtain⟨i,hi,e⟩:=h.meet y hy;have h1:¬i<m:=fun hlt=>hno ((e4 y).2 ⟨i,hlt,e⟩)
      have h2:i≠m:=fun e'=>hne (by rw[←e,e'])
      exact⟨i,by omega,hi,e⟩
    have step:∀y,y<q m→k0 y≤k0 (q m)→y<n+D→(y<c∨(n≤y∧y<n+d)):=fun y hy hk hyn=>by
      refine Classical.byContradiction fun hno=>?_
      obtain⟨i,h1,h2,h3⟩:=later y hyn hno (by omega);have h4:=h.srt m i h1 h2;have h5:=h.st m i h1 h2;rw[h3] at h4 h5;have:=h5 (by omega);omega
    by_cases hc:q m<n
    · have hqc:q m=c:=by
        refine Classical.byContradiction fun hne=>?_
        have:=step c (by omega) (h.coins c (q m) (by omega) hc) (by omega);omega
      refine⟨c+1,d,by omega,by omega,e3,fun y=>⟨fun hy=>?_,fun⟨i,hi,e⟩=>?_⟩⟩
      · by_cases hyc:y=c
        · exact⟨m,by omega,by omega⟩
        · obtain⟨i,hi,e⟩:=(e4 y).1 (by omega)
          exact⟨i,by omega,e⟩
      · by_cases him:i=m
        · subst him;omega
        · have:=(e4 y).2 ⟨i,by omega,e⟩
          omega
    · have hqd:q m=n+d:=by
        refine Classical.byContradiction fun hne=>?_
        have:=step (n+d) (by omega) (h.packs (n+d) (q m) (by omega) (by omega) hq) (by omega);omega
      refine⟨c,d+1,by omega,e2,by omega,fun y=>⟨fun hy=>?_,fun⟨i,hi,e⟩=>?_⟩⟩
      · by_cases hyc:y=n+d
        · exact⟨m,by omega,by omega⟩
        · obtain⟨i,hi,e⟩:=(e4 y).1 (by omega)
          exact⟨i,by omega,e⟩
      · by_cases him:i=m
        · subst him;omega
        · have:=(e4 y).2 ⟨i,by omega,e⟩
          omega
def k9 (f:Nat→Int):Nat→Int
  |0=>0
  |m+1=>k9 f m+f m
theorem kX {f g:Nat→Int}:∀m,(∀i,i<m→f i=g i)→k9 f m=k9 g m
  |0,_=>rfl
  |m+1,h=>by simp only[k9];rw[kX m (fun i hi=>h i (by omega)),h m (by omega)]
theorem kgh (f g:Nat→Int):∀m,k9 (fun i=>f i+g i) m=k9 f m+k9 g m
  |0=>rfl
  |m+1=>by simp only[k9];rw[kgh f g m];omega
theorem RowQ.sum {n D:Nat} {k0:Nat→Int} {q:Nat→Nat} (h:RowQ n D k0 q) (f:Nat→Int):∀m c d,m≤n+D→c+d=m→c≤n→d≤D→(∀y,(y<c∨(n≤y∧y<n+d))↔∃i,i<m∧q i=y)→k9 (fun i=>f (q i)) m=k9 f c+k9 (fun i=>f (n+i)) d:=by
  intro m;induction m with
  | zero => intro c d _ e _ _ _;obtain rfl:c=0:=by omega
            obtain rfl:d=0:=by omega
            rfl
  | succ m ih=>
    intro c d hm e e2 e3 e4;obtain⟨c',d',f1,f2,f3,f4⟩:=h.cut m (by omega);have hq:=(e4 (q m)).2 ⟨m,by omega,rfl⟩;have hqn:¬(q m<c'∨(n≤q m∧q m<n+d')):=fun hh=>by
      obtain⟨i,hi,e⟩:=(f4 (q m)).1 hh;have:=h.inj i m (by omega) (by omega) e;omega
    have sub:∀y,(y<c'∨(n≤y∧y<n+d'))→(y<c∨(n≤y∧y<n+d)):=fun y hy=>by
      obtain⟨i,hi,e⟩:=(f4 y).1 hy;exact(e4 y).2 ⟨i,by omega,e⟩
    have hcc:c'≤c:=Classical.byContradiction fun hh=>by have:=sub c (by omega);omega
    have hdd:d'≤d:=Classical.byContradiction fun hh=>by have:=sub (n+d) (by omega);omega
    simp only[k9];rw[ih c' d' (by omega) f1 f2 f3 f4];by_cases hc:c'+1=c
    · obtain rfl:d'=d:=by omega
      subst hc;obtain hq':q m=c':=by omega
      simp only[k9];rw[hq'];omega
    · obtain rfl:c'=c:=by omega
      obtain rfl:d=d'+1:=by omega
      obtain hq':q m=n+d':=by omega
      simp only[k9];rw[hq'];omega
inductive RowP (n:Nat) (kc:Nat→Int) (sc:Nat→Nat):Nat→Nat→(Nat→Int)→(Nat→List Int)→Prop
 |one {K:Nat→Int} {S:Nat→List Int} (h:∀i,i<n→K i=kc i∧S i=[(sc i:Int)]):RowP n kc sc 1 n K S
 | next {j N N':Nat} {K k0 K':Nat→Int} {S S0 S':Nat→List Int} {q:Nat→Nat} (h:RowP n kc sc j N K S) (hN:N'=n+N / 2)
   (hc:∀m,m<n→k0 m=kc m∧S0 m=[(sc m:Int)]) (hp:∀e,e<N / 2→k0 (n+e)=K (2*e)+K (2*e+1)∧S0 (n+e)=S (2*e)++S (2*e+1))
   (h1:∀i,i<N'→q i<N') (h2:∀i j,i<N'→j<N'→q i=q j→i=j) (h3:∀i j,i<j→j<N'→k0 (q i)≤k0 (q j)) (h4:∀i j,i<j→j<N'→k0 (q i)=k0 (q j)→q i<q j)
   (hs:∀i,i<N'→K' i=k0 (q i)∧S' i=S0 (q i)):RowP n kc sc (j+1) N' K' S'
structure keN (n:Nat) (kc:Nat→Int) (B:Int):Prop where
 pos:∀i,i<n→0<kc i
 le:∀i,i<n→kc i≤B
 srt:∀i j,i<j→j<n→kc i≤kc j
structure krT (n:Nat) (sc:Nat→Nat) (B:Int) (j N:Nat) (K:Nat→Int) (S:Nat→List Int):Prop where
 n1:n≤N
 n2:N≤2*n
 pos:∀i,i<N→0<K i
 srt:∀i j,i<j→j<N→K i≤K j
 le:∀i,i<N→K i≤B*(2^(j-1):Nat)
 len:∀i,i<N→(S i).length≤2^(j-1)∧0<(S i).length
 sym:∀i,i<N→∀y∈S i,∃t,t<n∧y=(sc t:Int)
theorem RowP.basic {n:Nat} {kc:Nat→Int} {sc:Nat→Nat} {B:Int} (hk:keN n kc B) (hB:0≤B):∀{j N:Nat} {K:Nat→Int} {S:Nat→List Int},RowP n kc sc j N K S→1≤j∧krT n sc B j N K S:=by
 intro j N K S h;induction h with
 |one h=>
  refine⟨Nat.le_refl _,Nat.le_refl _,by omega,fun i hi=>by rw[(h i hi).1];exact hk.pos i hi,fun i j hij hj=>by rw[(h i (by omega)).1,(h j hj).1];exact hk.srt i j hij hj,fun i hi=>?_,fun i hi=>by rw[(h i hi).2];simp,fun i hi y hy=>?_⟩
  ·rw[(h i hi).1];simpa using hk.le i hi
  ·rw[(h i hi).2] at hy;simp at hy;exact⟨i,hi,hy⟩
 | @next j N N' K k0 K' S S0 S' q h hN hc hp h1 h2 h3 h4 hs ih=>
  obtain⟨hj,ih⟩:=ih;have hn1:=ih.n1;have hn2:=ih.n2;have hpow:(2:Nat)^(j+1-1)=2*2^(j-1):=by
   obtain⟨t,rfl⟩:∃t,j=t+1:=⟨j-1,by omega⟩;rw[show t+1+1-1=t+1 by omega,show t+1-1=t by omega,Nat.pow_succ];omega
  have hP1:1≤2^(j-1):=Nat.one_le_two_pow;have hbase:∀y,y<N'→0<k0 y∧k0 y≤B*((2*2^(j-1):Nat):Int)∧((S0 y).length≤2*2^(j-1)∧0<(S0 y).length)∧∀z∈S0 y,∃t,t<n∧z=(sc t:Int):=by
   intro y hy;by_cases hyn:y<n
   ·rw[(hc y hyn).1,(hc y hyn).2];have a1:=hk.pos y hyn;have a2:=hk.le y hyn;have a3:B*1≤B*((2*2^(j-1):Nat):Int):=Int.mul_le_mul_of_nonneg_left (by omega) hB;refine⟨a1,by omega,by simp;omega,fun z hz=>?_⟩
    simp at hz;exact⟨y,hyn,hz⟩
   ·obtain⟨e,rfl⟩:∃e,y=n+e:=⟨y-n,by omega⟩;have he:e<N / 2:=by omega
    rw[(hp e he).1,(hp e he).2];have a1:=ih.pos (2*e) (by omega);have a2:=ih.pos (2*e+1) (by omega);have a3:=ih.le (2*e) (by omega);have a4:=ih.le (2*e+1) (by omega);have a5:=ih.len (2*e) (by omega);have a6:=ih.len (2*e+1) (by omega);have a7:B*((2*2^(j-1):Nat):Int)=B*(2^(j-1):Nat)+B*(2^(j-1):Nat):=by
     rw[show((2*2^(j-1):Nat):Int)=((2^(j-1):Nat):Int)+((2^(j-1):Nat):Int) by omega,Int.mul_add]
    refine⟨by omega,by omega,by rw[List.length_append];omega,fun z hz=>?_⟩
    rcases List.mem_append.1 hz with hz|hz
    ·exact ih.sym (2*e) (by omega) z hz
    ·exact ih.sym (2*e+1) (by omega) z hz
  refine⟨by omega,by omega,by omega,fun i hi=>?_,fun i j hij hj=>?_,fun i hi=>?_,fun i hi=>?_,fun i hi=>?_⟩
  ·rw[(hs i hi).1];exact(hbase _ (h1 i hi)).1
  ·rw[(hs i (by omega)).1,(hs j hj).1];exact h3 i j hij hj
  ·rw[(hs i hi).1,hpow];exact(hbase _ (h1 i hi)).2.1
  ·rw[(hs i hi).2,hpow];exact(hbase _ (h1 i hi)).2.2.1
  ·rw[(hs i hi).2];exact(hbase _ (h1 i hi)).2.2.2
theorem RowQ.of {n:Nat} {kc:Nat→Int} {sc:Nat→Nat} {B:Int} (hk:keN n kc B) {j N N':Nat} {K k0:Nat→Int} {S:Nat→List Int} {q:Nat→Nat} (ih:krT n sc B j N K S) (hN:N'=n+N / 2)
  (hc:∀m,m<n→k0 m=kc m) (hp:∀e,e<N / 2→k0 (n+e)=K (2*e)+K (2*e+1))
  (h1:∀i,i<N'→q i<N') (h2:∀i j,i<N'→j<N'→q i=q j→i=j) (h3:∀i j,i<j→j<N'→k0 (q i)≤k0 (q j)) (h4:∀i j,i<j→j<N'→k0 (q i)=k0 (q j)→q i<q j):RowQ n (N / 2) k0 q:=by
 subst hN;refine⟨h1,h2,h3,h4,fun i j hij hj=>by rw[hc i (by omega),hc j hj];exact hk.srt i j hij hj,fun i j hi hij hj=>?_⟩
 obtain⟨e,rfl⟩:∃e,i=n+e:=⟨i-n,by omega⟩;obtain⟨e',rfl⟩:∃e,j=n+e:=⟨j-n,by omega⟩;rw[hp e (by omega),hp e' (by omega)];have:=ih.srt (2*e) (2*e') (by omega) (by omega);have:=ih.srt (2*e+1) (2*e'+1) (by omega) (by omega);omega
theorem RowP.great {n:Nat} {kc:Nat→Int} {sc:Nat→Nat} {B:Int} (hk:keN n kc B) (hB:0≤B) (hn:2≤n):∀{j N:Nat} {K:Nat→Int} {S:Nat→List Int},RowP n kc sc j N K S→2*n-3<N→kc (n-1)≤K (2*n-3):=by
 intro j N K S h;induction h with
 |one h=>
  intro hlt;obtain rfl:n=2:=by omega
  rw[(h 1 (by omega)).1];exact Int.le_refl _
 | @next j N N' K k0 K' S S0 S' q h hN hc hp h1 h2 h3 h4 hs ih=>
  intro hlt;obtain⟨hj,hb⟩:=h.basic hk hB;have hQ:=RowQ.of hk hb hN (fun m hm=>(hc m hm).1) (fun e he=>(hp e he).1) h1 h2 h3 h4;have hn1:=hb.n1;refine Classical.byContradiction fun hno=>?_
  obtain⟨c,d,e1,e2,e3,e4⟩:=hQ.cut (2*n-2) (by omega);have hlow:∀i,i<2*n-2→k0 (q i)<kc (n-1):=fun i hi=>by
   have hx:k0 (q i)≤k0 (q (2*n-3)):=by
    by_cases e:i=2*n-3
    ·rw[e];exact Int.le_refl _
    ·exact h3 i (2*n-3) (by omega) hlt
   rw[(hs _ hlt).1] at hno;omega
  have hcn:c≤n-1:=Classical.byContradiction fun hh=>by
   obtain⟨i,hi,e⟩:=(e4 (n-1)).1 (.inl (by omega));have:=hlow i hi;rw[e,(hc (n-1) (by omega)).1] at this;omega
  obtain⟨i,hi,e⟩:=(e4 (n+(n-2))).1 (.inr (by omega));have hl:=hlow i hi;rw[e,(hp (n-2) (by omega)).1] at hl;have h5:=hb.pos (2*(n-2)) (by omega);have h6:=ih (by omega);rw[show 2*(n-2)+1=2*n-3 by omega] at hl;omega
theorem RowP.many {n:Nat} {kc:Nat→Int} {sc:Nat→Nat} {L:Nat} (hL:n≤2^L):∀{j N:Nat} {K:Nat→Int} {S:Nat→List Int},RowP n kc sc j N K S→∀t,j+t=L→2*n≤N+2^(t+1):=by
 intro j N K S h;induction h with
 |one h=>
  intro t ht;obtain rfl:t+1=L:=by omega
  omega
 |@next j N N' K k0 K' S S0 S' q h hN hc hp h1 h2 h3 h4 hs ih=>
  intro t ht;have:=ih (t+1) (by omega);rw[Nat.pow_succ] at this;have h2:1≤2^(t+1):=Nat.one_le_two_pow;have h3:2^(t+1)=2*2^t:=by rw[Nat.pow_succ];omega
  omega
def wC:List Nat→Nat
 |[]=>0
 |c::r=>c*2^r.length+wC r
def kdD (f:Nat→Int):List Nat→Int
 |[]=>0
 |c::r=>k9 f c+kdD f r
def kaT (φ:Int→Int):List Int→Int
 |[]=>0
 |y::l=>φ y+kaT φ l
theorem kb4 (φ:Int→Int) (b:List Int):∀a,kaT φ (a++b)=kaT φ a+kaT φ b
 |[]=>by simp[kaT]
 |y::a=>by simp only[List.cons_append,kaT];rw[kb4 φ b a];omega
def kby:List Nat→Nat
 |[]=>0
 |c::_=>c
theorem kcV (f:Nat→Int):∀d,k9 (fun e=>f (2*e)+f (2*e+1)) d=k9 f (2*d)
 |0=>rfl
 |d+1=>by rw[show 2*(d+1)=2*d+1+1 by omega];simp only[k9];rw[kcV f d];omega
structure CutsOf (n:Nat) (kc:Nat→Int) (sc:Nat→Nat) (K:Nat→Int) (S:Nat→List Int) (j m:Nat) (cs:List Nat):Prop where
 len:cs.length=j
 dn:cs.Pairwise (fun a b=>b≤a)
 le:∀c∈cs,c≤n
 w:wC cs=m*2^(j-1)
 sum:∀φ:Int→Int,k9 (fun t=>kaT φ (S t)) m=kdD (fun i=>φ (sc i)) cs
 val:k9 K m=kdD kc cs
 there:∀i,i<kby cs→∃t,t<m∧K t=kc i
 top:2≤n→m=2*n-2→kby cs=n
theorem RowP.cuts {n:Nat} {kc:Nat→Int} {sc:Nat→Nat} {B:Int} (hk:keN n kc B) (hB:0≤B):∀{j N:Nat} {K:Nat→Int} {S:Nat→List Int},RowP n kc sc j N K S→∀m,m≤N→∃cs,CutsOf n kc sc K S j m cs:=by
 intro j N K S h;induction h with
 | one h=>
  intro m hm;refine⟨[m],rfl,by simp,by simpa using hm,by simp[wC],fun φ=>?_,?_,fun i hi=>⟨i,hi,(h i (by simp only[kby] at hi;omega)).1⟩,fun h2 h3=>?_⟩
  ·simp only[kdD];rw[kX m (fun i hi=>by rw[(h i (by omega)).2])];simp[kaT]
  ·simp only[kdD];rw[kX m (fun i hi=>(h i (by omega)).1)];simp
  ·simp only[kby];omega
 | @next j N N' K k0 K' S S0 S' q h hN hc hp h1 h2 h3 h4 hs ih=>
  intro m hm;obtain⟨hj,hb⟩:=h.basic hk hB;have hQ:=RowQ.of hk hb hN (fun m hm=>(hc m hm).1) (fun e he=>(hp e he).1) h1 h2 h3 h4;subst hN;obtain⟨c,d,e1,e2,e3,e4⟩:=hQ.cut m hm;obtain⟨cs,g⟩:=ih (2*d) (by omega);have hn1:=hb.n1;have hmeet:∀i,i<n→¬i<c→∃i',m≤i'∧i'<n+N / 2∧q i'=i:=fun i hi hno=>by
   obtain⟨i',a1,a2⟩:=hQ.meet i (by omega);refine⟨i',Classical.byContradiction fun hh=>?_,a1,a2⟩
   have:=(e4 i).2 ⟨i',by omega,a2⟩;omega
  have hhead:kby cs≤c:=Classical.byContradiction fun hh=>by
   obtain⟨t,ht,hK⟩:=g.there c (by omega);have hcn:c<n:=by
    have hle:=g.le;cases cs with
    |nil=>simp[kby] at hh
    |cons a r=>have:=hle a (by simp);simp only[kby] at hh;omega
   obtain⟨i',a1,a2,a3⟩:=hmeet c hcn (by omega);obtain⟨p,b1,b2⟩:=(e4 (n+t / 2)).1 (.inr (by omega));have hle:=h3 p i' (by omega) a2;rw[b2,a3,(hp (t / 2) (by omega)).1,(hc c hcn).1] at hle;have p1:=hb.pos (2*(t / 2)) (by omega);have p2:=hb.pos (2*(t / 2)+1) (by omega);rcases(by omega:t=2*(t / 2)∨t=2*(t / 2)+1) with e|e
   ·rw[e] at hK;omega
   ·rw[e] at hK;omega
  have hpow:(2:Nat)^(j+1-1)=2*2^(j-1):=by
   obtain⟨t,rfl⟩:∃t,j=t+1:=⟨j-1,by omega⟩;rw[show t+1+1-1=t+1 by omega,show t+1-1=t by omega,Nat.pow_succ];omega
  have hsum:∀V0 V':Nat→Int,(∀i,i<n+N / 2→V' i=V0 (q i))→k9 V' m=k9 V0 c+k9 (fun i=>V0 (n+i)) d:=fun V0 V' hV=>by
   rw[kX m (fun i hi=>hV i (by omega))];exact hQ.sum V0 m c d hm e1 e2 e3 e4
  refine⟨c::cs,by simp[g.len],?_,?_,?_,fun φ=>?_,?_,fun i hi=>?_,fun n2 hm2=>?_⟩
  ·refine List.pairwise_cons.2 ⟨fun a ha=>?_,g.dn⟩
   have hdn:=g.dn;cases cs with
   |nil=>cases ha
   |cons b r=>
    simp only[kby] at hhead;rcases List.mem_cons.1 ha with rfl|ha
    ·exact hhead
    ·have:=(List.pairwise_cons.1 hdn).1 a ha;omega
  ·intro a ha;rcases List.mem_cons.1 ha with rfl|ha
   ·exact e2
   ·exact g.le a ha
  ·simp only[wC];rw[g.w,g.len,hpow,show 2^j=2*2^(j-1) by rw[←hpow];rfl,←e1,Nat.add_mul,Nat.mul_assoc,Nat.mul_left_comm d 2]
  ·simp only[kdD];rw[hsum (fun i=>kaT φ (S0 i)) _ (fun i hi=>by rw[(hs i hi).2]),←g.sum φ,←kcV];congr 1
   ·exact kX c (fun i hi=>by rw[(hc i (by omega)).2];simp[kaT])
   ·exact kX d (fun i hi=>by rw[(hp i (by omega)).2,kb4])
  ·simp only[kdD];rw[hsum k0 _ (fun i hi=>(hs i hi).1),←g.val,←kcV];congr 1
   ·exact kX c (fun i hi=>(hc i (by omega)).1)
   ·exact kX d (fun i hi=>(hp i (by omega)).1)
  ·simp only[kby] at hi;obtain⟨t,ht,e⟩:=(e4 i).1 (.inl hi);exact⟨t,ht,by rw[(hs t (by omega)).1,e,(hc i (by omega)).1]⟩
  ·simp only[kby];refine Classical.byContradiction fun hne=>?_
   obtain⟨i',a1,a2,a3⟩:=hmeet (n-1) (by omega) (by omega);obtain⟨p,b1,b2⟩:=(e4 (n+(n-2))).1 (.inr (by omega));have hle:=h3 p i' (by omega) a2;rw[b2,a3,(hp (n-2) (by omega)).1,(hc (n-1) (by omega)).1] at hle;have p1:=hb.pos (2*(n-2)) (by omega);have hg:=h.great hk hB n2 (by omega);rw[show 2*(n-2)+1=2*n-3 by omega] at hle;omega
def kaD (i:Nat) (cs:List Nat):Nat:=cs.countP (fun c=>decide (i<c))
def wI (i:Nat):List Nat→Nat
 |[]=>0
 |c::r=>(if i<c then 2^r.length else 0)+wI i r
theorem khK (i:Nat) (cs:List Nat):kaD i cs≤cs.length:=List.countP_le_length
theorem klv {i:Nat}:∀{cs:List Nat},(∀c∈cs,c≤i)→wI i cs=0∧kaD i cs=0
 |[],_=>⟨rfl,rfl⟩
 |c::r,h=>by
  have h1:=h c (by simp);obtain⟨h2,h3⟩:=klv (cs:=r) (fun a ha=>h a (by simp[ha]));refine⟨by simp only[wI];rw[if_neg (by omega),h2],?_⟩
  unfold kaD at h3 ⊢
  rw[List.countP_cons,h3,if_neg (by simp;omega)]
theorem kqb {i:Nat}:∀{cs:List Nat},cs.Pairwise (fun a b=>b≤a)→wI i cs+2^(cs.length-kaD i cs)=2^cs.length
 |[],_=>rfl
 | c::r,h=>by
  obtain⟨h1,h2⟩:=List.pairwise_cons.1 h;by_cases hc:i<c
  ·have ih:=kqb (i:=i) h2;have hle:=khK i r;have e:kaD i (c::r)=kaD i r+1:=by unfold kaD;rw[List.countP_cons,if_pos (by simpa using hc)]
   simp only[wI];rw[if_pos hc,e,List.length_cons,show r.length+1-(kaD i r+1)=r.length-kaD i r by omega,Nat.pow_succ];omega
  ·have h3:=klv (i:=i) (cs:=c::r) (fun a ha=>by
    rcases List.mem_cons.1 ha with rfl|ha
    ·omega
    ·have:=h1 a ha;omega)
   rw[h3.1,h3.2];simp
def ka9 (f:Nat→Nat):Nat→Nat
 |0=>0
 |m+1=>ka9 f m+f m
theorem kgi (f g:Nat→Nat):∀m,ka9 (fun i=>f i+g i) m=ka9 f m+ka9 g m
 |0=>rfl
 |m+1=>by simp only[ka9];rw[kgi f g m];omega
theorem kjB {f g:Nat→Nat}:∀m,(∀i,i<m→f i=g i)→ka9 f m=ka9 g m
 |0,_=>rfl
 |m+1,h=>by simp only[ka9];rw[kjB m (fun i hi=>h i (by omega)),h m (by omega)]
theorem kcW (x:Nat):∀m,ka9 (fun _=>x) m=m*x
 |0=>by simp[ka9]
 |m+1=>by simp only[ka9];rw[kcW x m,Nat.succ_mul]
theorem kjC (c x:Nat):∀n,ka9 (fun i=>if i<c then x else 0) n=min c n*x
 |0=>by simp[ka9]
 |n+1=>by
  simp only[ka9];rw[kjC c x n];by_cases h:n<c
  ·rw[if_pos h,Nat.min_eq_right (by omega),Nat.min_eq_right (by omega),Nat.succ_mul]
  ·rw[if_neg h,Nat.min_eq_left (by omega),Nat.min_eq_left (by omega)];omega
theorem kqc {n:Nat}:∀{cs:List Nat},(∀c∈cs,c≤n)→ka9 (fun i=>wI i cs) n=wC cs
 |[],_=>by simp only[wI,wC];rw[kcW];simp
 |c::r,h=>by
  have ih:=kqc (n:=n) (cs:=r) (fun a ha=>h a (by simp[ha]));simp only[wI,wC];rw[kgi (fun i=>if i<c then 2^r.length else 0) (fun i=>wI i r) n,ih,kjC,Nat.min_eq_left (h c (by simp))]
theorem CutsOf.kraft {n:Nat} {kc:Nat→Int} {sc:Nat→Nat} {K:Nat→Int} {S:Nat→List Int} {L:Nat} {cs:List Nat} (g:CutsOf n kc sc K S L (2*n-2) cs) (hn:2≤n) (hL:1≤L):ka9 (fun i=>2^(L-kaD i cs)) n=2^L:=by
 have h1:=kqc g.le;have h2:ka9 (fun i=>wI i cs) n+ka9 (fun i=>2^(L-kaD i cs)) n=n*2^L:=by
  rw[←kgi];refine(kjB (g:=fun _=>2^L) n (fun i _=>?_)).trans (kcW _ _)
  have h3:=kqb (i:=i) g.dn;rw[g.len] at h3;exact h3
 rw[h1,g.w] at h2;obtain⟨t,rfl⟩:∃t,L=t+1:=⟨L-1,by omega⟩;rw[show t+1-1=t by omega] at h2;have h3:(2*n-2)*2^t+2^(t+1)=n*2^(t+1):=by
  rw[Nat.pow_succ,show n*(2^t*2)=(2*n)*2^t by rw[Nat.mul_comm (2^t) 2,←Nat.mul_assoc,Nat.mul_comm n 2],show 2^t*2=2*2^t by omega,←Nat.add_mul];congr 1;omega
 omega
end Go.Proofs.Ytlclleihoampdaa
namespace Go.Proofs.Ytlclleihoampdaa
open Go Go.Sx Go.Proofs
@[irreducible] def kag (f:Nat→Nat) (i n:Nat):Nat→Nat:=fun m=>if m=i then n else f m
theorem qB (f:Nat→Nat) (i n m:Nat):kag f i n m=if m=i then n else f m:=by unfold kag;rfl
@[irreducible] def kkN (f:Nat→List Int) (i:Nat) (n:List Int):Nat→List Int:=fun m=>if m=i then n else f m
theorem ke7 (f:Nat→List Int) (i:Nat) (n:List Int) (m:Nat):kkN f i n m=if m=i then n else f m:=by unfold kkN;rfl
def khL (l:List Int):Nat:=l.countP (fun c=>decide (0<c))
structure CoinsTo (l:List Int) (i n:Nat) (k:Nat→Int) (s:Nat→Nat):Prop where
 num:n=khL (l.take i)
 pos:∀m,m<n→0<k m∧k m=l.getD (s m) 0∧s m<i
 inj:∀a b,a<n→b<n→s a=s b→a=b
 all:∀t,t<i→0<l.getD t 0→∃m,m<n∧s m=t
theorem kg8 {l:List Int} {i:Nat} (hi:i<l.length):khL (l.take (i+1))=khL (l.take i)+if 0<l.getD i 0 then 1 else 0:=by
 unfold khL;rw[List.take_add_one,List.countP_append];congr 1
 rw[List.getElem?_eq_getElem hi,List.getD_eq_getElem?_getD,List.getElem?_eq_getElem hi];simp only[Option.toList,Option.getD_some];by_cases h:0<l[i]
 ·rw[if_pos h];simp[h]
 ·rw[if_neg h];simp[h]
theorem CoinsTo.nil (l:List Int) (k:Nat→Int) (s:Nat→Nat):CoinsTo l 0 0 k s:=⟨by simp[khL],fun m hm=>by omega,fun a b ha=>by omega,fun t ht=>by omega⟩
theorem CoinsTo.no {l:List Int} {i n:Nat} {k:Nat→Int} {s:Nat→Nat} (h:CoinsTo l i n k s) (hi:i<l.length) (hz:¬0<l.getD i 0):CoinsTo l (i+1) n k s:=by
 refine⟨by rw[kg8 hi,if_neg hz,h.num];rfl,fun m hm=>?_,h.inj,fun t ht hp=>?_⟩
 ·obtain⟨h1,h2,h3⟩:=h.pos m hm;exact⟨h1,h2,by omega⟩
 ·by_cases e:t=i
  ·subst e;exact absurd hp hz
  ·exact h.all t (by omega) hp
theorem CoinsTo.yes {l:List Int} {i n:Nat} {k:Nat→Int} {s:Nat→Nat} (h:CoinsTo l i n k s) (hi:i<l.length) (hz:0<l.getD i 0):CoinsTo l (i+1) (n+1) (qC k n (l.getD i 0)) (kag s n i):=by
 refine⟨by rw[kg8 hi,if_pos hz,h.num],fun m hm=>?_,fun a b ha hb hab=>?_,fun t ht hp=>?_⟩
 ·rw[ja,qB];by_cases e:m=n
  ·subst e;rw[if_pos rfl,if_pos rfl];exact⟨hz,rfl,by omega⟩
  ·rw[if_neg e,if_neg e];obtain⟨h1,h2,h3⟩:=h.pos m (by omega);exact⟨h1,h2,by omega⟩
 ·rw[qB,qB] at hab;by_cases e1:a=n<;>by_cases e2:b=n
  ·omega
  ·rw[if_pos e1,if_neg e2] at hab;have:=(h.pos b (by omega)).2.2;omega
  ·rw[if_neg e1,if_pos e2] at hab;have:=(h.pos a (by omega)).2.2;omega
  ·rw[if_neg e1,if_neg e2] at hab;exact h.inj a b (by omega) (by omega) hab
 ·by_cases e:t=i
  ·exact⟨n,by omega,by rw[qB,if_pos rfl,e]⟩
  ·obtain⟨m,h1,h2⟩:=h.all t (by omega) hp;exact⟨m,by omega,by rw[qB,if_neg (by omega),h2]⟩
@[irreducible] def ColdS (c:Nat→Option CB) (n:Nat) (x ln:Nat→Nat) (S:Nat→List Int):Prop:=∀m,m<n→c (x m)=some (.ints .i64 (S m))∧ln m=(S m).length
theorem ColdS.out {c:Nat→Option CB} {n:Nat} {x ln:Nat→Nat} {S:Nat→List Int} (h:ColdS c n x ln S):∀m,m<n→c (x m)=some (.ints .i64 (S m))∧ln m=(S m).length:=by unfold ColdS at h;exact h
theorem ColdS.of {c:Nat→Option CB} {n:Nat} {x ln:Nat→Nat} {S:Nat→List Int} (h:∀m,m<n→c (x m)=some (.ints .i64 (S m))∧ln m=(S m).length):ColdS c n x ln S:=by unfold ColdS;exact h
theorem ColdS.nil (c:Nat→Option CB) (x ln:Nat→Nat) (S:Nat→List Int):ColdS c 0 x ln S:=.of (fun m hm=>by omega)
theorem ColdS.upd {c:Nat→Option CB} {n:Nat} {x ln:Nat→Nat} {S:Nat→List Int} (h:ColdS c n x ln S) {id:Nat} {B:CB} (hid:c id=none):ColdS (kbA c id B) n x ln S:=
 .of (fun m hm=>⟨kiU hid (h.out m hm).1,(h.out m hm).2⟩)
theorem ColdS.more {c:Nat→Option CB} {n:Nat} {x ln:Nat→Nat} {S:Nat→List Int} (h:ColdS c n x ln S) {id:Nat} (hid:c id=none) (b:List Int) (len:Nat) (hl:len=b.length) :
  ColdS (kbA c id (.ints .i64 b)) (n+1) (kag x n id) (kag ln n len) (kkN S n b):=by
 refine .of (fun m hm=>?_)
 rw[qB,qB,ke7];by_cases e:m=n
 ·rw[if_pos e,if_pos e,if_pos e];exact⟨kfS _ _ _,hl⟩
 ·rw[if_neg e,if_neg e,if_neg e];exact⟨kiU hid (h.out m (by omega)).1,(h.out m (by omega)).2⟩
theorem ColdS.perm {c:Nat→Option CB} {n n':Nat} {x ln:Nat→Nat} {S:Nat→List Int} (h:ColdS c n x ln S) (q:Nat→Nat) (hq:∀m,m<n'→q m<n):ColdS c n' (fun m=>x (q m)) (fun m=>ln (q m)) (fun m=>S (q m)):=
 .of (fun m hm=>h.out (q m) (hq m hm))
theorem kjD (k:Nat→Int) (x ln cp:Nat→Nat) (n:Nat) (v:Int) (b len cap id:Nat) (σ:Names) (hσ:σ b=some (id,0)) (m:Nat) (hm:m<n+1) :
  denL σ [.int .u64 (qC k n v m),.val (.slice (some ⟨kag x n id m,0,none⟩) (kag ln n len m) (kag cp n cap m))] =
  denL σ (koY (fun m=>[.int .u64 (k m),.val (.slice (some ⟨x m,0,none⟩) (ln m) (cp m))]) n [.int .u64 v,.slice b .z 1 len cap] m):=by
 rw[khf,ja,qB,qB,qB];by_cases e:m=n
 ·rw[if_pos e,if_pos e,if_pos e,if_pos e,if_pos e];simp[denL,den,hσ,ixN]
 ·rw[if_neg e,if_neg e,if_neg e,if_neg e,if_neg e]
theorem khM {l:List Int} {n:Nat} {k:Nat→Int} {s q:Nat→Nat} (h:CoinsTo l l.length n k s) (hl:∀i,i<l.length→l.getD i 0<4294967296) (hp:PermOn (fun m=>m) q 0 n) (hs:Srt k q 0 n) :
  keN n (fun m=>k (q m)) 4294967295∧(∀i,i<n→k (q i)=l.getD (s (q i)) 0∧s (q i)<l.length)∧(∀a b,a<n→b<n→s (q a)=s (q b)→a=b)∧(∀t,t<l.length→0<l.getD t 0→∃m,m<n∧s (q m)=t)∧∀m,m<n→q m<n:=by
 have hlt:∀m,m<n→q m<n:=fun m hm=>by
  obtain⟨m',_,h2,e⟩:=hp.sub m (Nat.zero_le _) hm;rw[e];exact h2
 have hinj:=hp.inj (fun i j h=>h);refine⟨⟨fun i hi=>(h.pos _ (hlt i hi)).1,fun i hi=>?_,fun i j hij hj=>hs i j (Nat.zero_le _) hij hj⟩,fun i hi=>⟨(h.pos _ (hlt i hi)).2.1,(h.pos _ (hlt i hi)).2.2⟩,fun a b ha hb e=>hinj a b (h.inj _ _ (hlt a ha) (hlt b hb) e),fun t ht hpo=>?_,hlt⟩
 ·obtain⟨_,e,hlt2⟩:=h.pos _ (hlt i hi);have:=hl _ hlt2;show k (q i)≤4294967295
  rw[e];omega
 ·obtain⟨m,h1,h2⟩:=h.all t ht hpo;obtain⟨m',h3,h4⟩:=kjA n q hlt (fun i j _ _ e=>hinj i j e) m h1;exact⟨m',h3,by rw[h4,h2]⟩
def keW (K:Nat→Int) (x ln cp:Nat→Nat):Nat→List Value:=fun m=>[.int .u64 (K m),.slice (some ⟨x m,0,none⟩) (ln m) (cp m)]
theorem kb5 (K:Nat→Int) (x ln cp:Nat→Nat) (σ:Names) (m:Nat):denL σ [.int .u64 (K m),.val (.slice (some ⟨x m,0,none⟩) (ln m) (cp m))]=keW K x ln cp m:=by simp[denL,den,keW]
structure koQ (n:Nat) (kc:Nat→Int) (sc xc lc:Nat→Nat) (Sc:Nat→List Int) (j N idr capr:Nat) (K:Nat→Int) (x ln cp:Nat→Nat) (S:Nat→List Int) (c:Nat→Option CB):Prop where
 row:RowP n kc sc j N K S
 cap:N≤capr
 at':c idr=some (.rows 2 N (keW K x ln cp))
 syms:ColdS c N x ln S
 coins:ColdS c n xc lc Sc
structure NextIn (n:Nat) (kc:Nat→Int) (xc lc:Nat→Nat) (Sc:Nat→List Int) (N e:Nat) (K:Nat→Int) (S:Nat→List Int) (x ln:Nat→Nat) (k0:Nat→Int) (x0 l0:Nat→Nat) (S0:Nat→List Int) (c:Nat→Option CB):Prop where
 le:e≤N / 2
 kc:∀m,m<n→k0 m=kc m∧S0 m=Sc m
 kp:∀d,d<e→k0 (n+d)=K (2*d)+K (2*d+1)∧S0 (n+d)=S (2*d)++S (2*d+1)
 new:ColdS c (n+e) x0 l0 S0
 syms:ColdS c N x ln S
 coins:ColdS c n xc lc Sc
theorem NextIn.step {n:Nat} {kc:Nat→Int} {xc lc:Nat→Nat} {Sc:Nat→List Int} {N e:Nat} {K:Nat→Int} {S:Nat→List Int} {x ln:Nat→Nat} {k0:Nat→Int} {x0 l0:Nat→Nat} {S0:Nat→List Int} {c:Nat→Option CB}
  (h:NextIn n kc xc lc Sc N e K S x ln k0 x0 l0 S0 c) (he:e+1≤N / 2) {id:Nat} (hid:c id=none) (len:Nat) (hlen:len=(S (2*e)++S (2*e+1)).length) :
  NextIn n kc xc lc Sc N (e+1) K S x ln (qC k0 (n+e) (K (2*e)+K (2*e+1))) (kag x0 (n+e) id) (kag l0 (n+e) len) (kkN S0 (n+e) (S (2*e)++S (2*e+1))) (kbA c id (.ints .i64 (S (2*e)++S (2*e+1)))):=by
 refine⟨he,fun m hm=>?_,fun d hd=>?_,h.new.more hid _ len hlen,h.syms.upd hid,h.coins.upd hid⟩
 ·rw[ja,ke7,if_neg (by omega),if_neg (by omega)];exact h.kc m hm
 ·rw[ja,ke7];by_cases e':d=e
  ·subst e';rw[if_pos rfl,if_pos rfl];exact⟨rfl,rfl⟩
  ·rw[if_neg (by omega),if_neg (by omega)];exact h.kp d (by omega)
theorem NextIn.done {n:Nat} {kc:Nat→Int} {sc xc lc:Nat→Nat} {Sc:Nat→List Int} {N j:Nat} {K:Nat→Int} {S:Nat→List Int} {x ln:Nat→Nat} {k0:Nat→Int} {x0 l0:Nat→Nat} {S0:Nat→List Int} {c:Nat→Option CB} {q:Nat→Nat}
  (h:NextIn n kc xc lc Sc N (N / 2) K S x ln k0 x0 l0 S0 c) (hr:RowP n kc sc j N K S) (hSc:∀m,m<n→Sc m=[(sc m:Int)]) (hp:PermOn (fun m=>m) q 0 (n+N / 2)) (hst:St k0 q) (hs:Srt k0 q 0 (n+N / 2)) :
  RowP n kc sc (j+1) (n+N / 2) (fun m=>k0 (q m)) (fun m=>S0 (q m))∧ColdS c (n+N / 2) (fun m=>x0 (q m)) (fun m=>l0 (q m)) (fun m=>S0 (q m)):=by
 have hlt:∀m,m<n+N / 2→q m<n+N / 2:=fun m hm=>by
  obtain⟨m',_,h2,e⟩:=hp.sub m (Nat.zero_le _) hm;rw[e];exact h2
 have hinj:=hp.inj (fun i j h=>h);unfold Srt at hs;unfold St at hst;exact⟨.next hr rfl (fun m hm=>⟨(h.kc m hm).1,by rw[(h.kc m hm).2];exact hSc m hm⟩) (fun e he=>h.kp e he) hlt (fun i j _ _ e=>hinj i j e) (fun i j hij hj=>hs i j (Nat.zero_le _) hij hj) (fun i j hij hj e=>hst i j hij e) (fun i hi=>⟨rfl,rfl⟩),h.new.perm q hlt⟩
def kee (s:Int) (y:Int):Int:=if y=s then 1 else 0
@[irreducible] def OutP (S:Nat→List Int) (i t r:Nat) (o:List Int):Prop:=o.length=i∧∀s:Nat,s<i→o.getD s 0=(k9 (fun t=>kaT (kee s) (S t)) t+kaT (kee s) ((S t).take r)) % 256
theorem OutP.out {S:Nat→List Int} {i t r:Nat} {o:List Int} (h:OutP S i t r o):o.length=i∧∀s:Nat,s<i→o.getD s 0=(k9 (fun t=>kaT (kee s) (S t)) t+kaT (kee s) ((S t).take r)) % 256:=by unfold OutP at h;exact h
theorem OutP.start (S:Nat→List Int) (i:Nat):OutP S i 0 0 (List.replicate i 0):=by
 unfold OutP;refine⟨by simp,fun s hs=>?_⟩
 rw[List.getD_eq_getElem?_getD,List.getElem?_replicate,if_pos hs];simp[k9,kaT]
theorem OutP.next {S:Nat→List Int} {i t r:Nat} {o:List Int} (h:OutP S i t r o) (hr:r=(S t).length):OutP S i (t+1) 0 o:=by
 obtain⟨h1,h2⟩:=h.out;unfold OutP;refine⟨h1,fun s hs=>?_⟩
 rw[h2 s hs,hr,List.take_length];simp[k9,kaT]
theorem OutP.step {S:Nat→List Int} {i t r:Nat} {o:List Int} (h:OutP S i t r o) (hr:r<(S t).length) {y:Nat} (hy:(S t).getD r 0=(y:Int)) (hyi:y<i):OutP S i t (r+1) (o.set y ((o.getD y 0+1) % 256)):=by
 obtain⟨h1,h2⟩:=h.out;unfold OutP;refine⟨by simpa using h1,fun s hs=>?_⟩
 have e:kaT (kee s) ((S t).take (r+1))=kaT (kee s) ((S t).take r)+kee s y:=by
  rw[List.take_add_one,kb4];congr 1
  rw[List.getD_eq_getElem?_getD,List.getElem?_eq_getElem hr] at hy;rw[List.getElem?_eq_getElem hr];simp only[Option.getD_some] at hy;simp[kaT,hy]
 rw[e,List.getD_eq_getElem?_getD,List.getElem?_set];have h3:=h2 s hs;rw[List.getD_eq_getElem?_getD] at h3;by_cases es:y=s
 ·subst es;rw[if_pos rfl,if_pos (by omega),List.getD_eq_getElem?_getD,h3];simp only[Option.getD_some,kee,if_true];omega
 ·rw[if_neg es,h3];unfold kee;rw[if_neg (by omega)];omega
theorem kna (k:Nat→Int):St k (fun m=>m):=by unfold St;exact fun i j h _=>h
section
attribute [local irreducible] St Srt keW
def Abl (l:List Int) (most:Int):Prop:=l.length≤1024∧1≤most∧most≤15∧2≤khL l∧khL l≤2^most.toNat
def LimP (l:List Int) (most:Int) (o:List Int):Prop:=∃(n N:Nat) (kc:Nat→Int) (sc:Nat→Nat) (K:Nat→Int) (S:Nat→List Int),
 n=khL l∧keN n kc 4294967295∧(∀i,i<n→kc i=l.getD (sc i) 0∧sc i<l.length)∧(∀a b,a<n→b<n→sc a=sc b→a=b)∧(∀t,t<l.length→0<l.getD t 0→∃m,m<n∧sc m=t) ∧
 RowP n kc sc most.toNat N K S∧2*n-2≤N∧o.length=l.length∧∀s:Nat,s<l.length→o.getD s 0=(k9 (fun t=>kaT (kee s) (S t)) (2*n-2)) % 256
set_option maxRecDepth 100000
set_option maxHeartbeats 40000000
theorem knb (PT:SV→List SB→List Nat→Prop) (l:List Int) (most:Int) (cap:Nat) (hl:∀c∈l,0≤c∧c<4294967296) (hlen:l.length≤1048576) (hmo : -9223372036854775808≤most∧most≤9223372036854775807)
  (hB:¬Abl l most→PT (.tup [.val (.slice none 0 0),.int .i64 2]) [.ro .u32 l] []) (hG:Abl l most→∀o,LimP l most o→PT (.tup [.slice 1 .z 1 l.length l.length,.int .i64 0]) [.ro .u32 l,.ints 5 .u8 o] []) :
  Con Try.prog 86 [.slice 0 .z 1 l.length cap,.int .i64 most] [.ro .u32 l] PT:=by
 have hris:=fun(k:Nat→Int) (x ln cp:Nat→Nat) (N C cap:Nat) (hN:N≤100000)=>kkM k x ln cp (fun m=>m) N C cap hN (kna k)
 refine kj (kG (km (kg kr ksh ?_)))
 intro vb vc vw vtoN vofN vaddN _ _ _ _ vgd vst vln vrep vsub vonto _ _ _ _ _ hw qb qc qw qtoN qofN qaddN _ _ _ _ qgd qst qln qrep qsub qonto _ _ _ _ _;have hm:=kr;generalize Try.prog=P at *;have hadd:∀(x y:Int) (i j:Nat),x=i→y=j→i+j<100000000→vb .add .i64 x y=((i+j:Nat):Int):=fun x y i j h1 h2 h=>by rw[qb,kh (by omega) (by omega)];omega
 have hadd0:∀i,vaddN 0 i=i:=fun i=>by simp only[qaddN,Nat.zero_add]
 have hlss:∀(x y:Int) (i j:Nat),x=i→y=j→vc .lss x y=decide (i<j):=fun x y i j h1 h2=>by rw[qc];exact khI h1 h2
 generalize hL:l.length=L at *;obtain⟨LI,hLI⟩:∃LI,LI=(L:Int):=⟨_,rfl⟩;have hlen':Le L 1048576:=⟨hlen⟩;have hgd:∀i,i<L→0≤l.getD i 0∧l.getD i 0<4294967296:=fun i hi=>hl _ (by rw[List.getD_eq_getElem?_getD,List.getElem?_eq_getElem (by rw[hL];exact hi)];exact List.getElem_mem _)
 have hvgd:∀i,vgd l i=l.getD i 0:=fun i=>by rw[qgd]
 have hvln:vln l=L:=by rw[qln];exact hL
 have hof:vofN L=LI:=by rw[qofN,hLI]
 have hto:∀(x:Int) (i:Nat),x=i→vtoN x=i:=fun x i h=>by rw[qtoN,h];rfl
 have hcon:∀v:Int,0≤v→v<4294967296→vw .u64 v=v:=fun v h1 h2=>by rw[qw];exact wrap_u64 h1 (by omega)
 have hgt:∀v:Int,vc .gtr v 0=decide (0<v):=fun v=>by rw[qc];rfl
 have htake:=@List.take_length _ l;clear hl hlen;have hinv0:(0:Int)=((0:Nat):Int)∧0≤L∧0≤0∧CoinsTo l 0 0 (fun _=>0) (fun _=>0)∧ColdS (fun _=>none) 0 (fun _=>0) (fun _=>0) (fun _=>[])∧∀m,m<0→(fun _=>([]:List Int)) m=[((fun _=>0:Nat→Nat) m:Int)]:=⟨rfl,Nat.zero_le _,Nat.le_refl _,CoinsTo.nil _ _ _,ColdS.nil _ _ _ _,fun m hm=>absurd hm (Nat.not_lt_zero m)⟩;cbv;rw[hof];refine WX.cv (Cv.nilTA 6 2 201 (fun m=>[.int .u64 ((fun _=>0:Nat→Int) m),.val (.slice (some ⟨(fun _=>0:Nat→Nat) m,0,none⟩) ((fun _=>0:Nat→Nat) m) ((fun _=>0:Nat→Nat) m))]) (by rfl) (by cbv) (Cv.here ?_))
 refine kd1 (α:=Int×Nat×Nat×Nat×(Nat→Int)×(Nat→Nat)×(Nat→Nat)×(Nat→Nat)×(Nat→Nat)×(Nat→List Int)×(Nat→Option CB)) ([7,8]++[21,22,23,24,25,26,27,28,29,30,31,32,33,34,35]) [1]
  (fun(iI,i,n,ca,k,s,x,ln,cp,S,c)=>[(20,.int .i64 iI),(6,.slice 1 .z 2 n ca)])
  (fun(iI,i,n,ca,k,s,x,ln,cp,S,c)=>[(1,.bufA 201 2 n (fun m=>[.int .u64 (k m),.val (.slice (some ⟨x m,0,none⟩) (ln m) (cp m))]) ca)])
  (fun(iI,i,n,ca,k,s,x,ln,cp,S,c)=>c)
  (fun(iI,i,n,ca,k,s,x,ln,cp,S,c)=>iI=i∧i≤L∧n≤ca∧CoinsTo l i n k s∧ColdS c n x ln S∧∀m,m<n→S m=[(s m:Int)])
  (fun(iI,i,n,ca,k,s,x,ln,cp,S,c)=>L-i) hw hm ?_ ?_
 ·refine Cv.genAt [20] [] (Cv.fold ([7,8]++[21,22,23,24,25,26,27,28,29,30,31,32,33,34,35]) 2 [1] (by exact Nat.le_refl _) (by exact Nat.le_of_ble_eq_true rfl) (by rfl) (by cbv) ?_)
  intro js;exact⟨(_,0,0,0,_,_,_,_,_,_,_),hinv0,js,rfl⟩
 rintro⟨iI,i,n,ca,k,s,x,ln,cp,S,c⟩ js ⟨g1,g2,g3,g4,g5,g6⟩;clear hinv0;by_cases hiL:i<L
 ·have hc1:vc .lss iI LI=true:=by rw[hlss iI LI i L g1 hLI];exact decide_eq_true hiL
  have hti:=hto iI i g1;have hr:InR iI L:=⟨by omega⟩;have hnx:∀u:Int,u=vb .add .i64 iI 1→u=((i+1:Nat):Int):=fun u hu=>hu.trans (hadd iI 1 i 1 g1 rfl (by have:=hlen'.out;omega))
  obtain⟨v,hv⟩:∃v,v=l.getD i 0:=⟨_,rfl⟩;have hvv:=hgd i hiL;rw[←hv] at hvv;have hvi:vgd l i=v:=by rw[hvgd,hv]
  have hcv:=hcon v hvv.1 hvv.2;have hmu:L-(i+1)<L-i:=by omega
  have hi1:i+1≤L:=hiL;have hnL:n≤i:=by rw[g4.num];exact Nat.le_trans List.countP_le_length (by rw[List.length_take];omega)
  obtain⟨n1,hn1⟩:∃n1,n1=n+1:=⟨_,rfl⟩;have had1:vaddN n 1=n1:=by rw[qaddN,hn1]
  have hfit:Fits n1 32:=⟨by have:=hlen'.out;omega⟩;obtain⟨i1,hi1e⟩:∃i1,i1=i+1:=⟨_,rfl⟩;by_cases hp:0<v
  ·have hgv:vc .gtr v 0=true:=by rw[hgt];exact decide_eq_true hp
   have hco:=g4.yes (by rw[hL];exact hiL) (by rw[←hv];exact hp);rw[←hv] at hco;have hfin:∀(u:Int) (id ca2:Nat),u=vb .add .i64 iI 1→c id=none→n1≤ca2→(u=i1∧i1≤L∧n1≤ca2∧CoinsTo l i1 n1 (qC k n v) (kag s n i)∧ColdS (kbA c id (.ints .i64 [iI])) n1 (kag x n id) (kag ln n 1) (kkN S n [iI])∧∀m,m<n1→kkN S n [iI] m=[(kag s n i m:Int)])∧L-i1<L-i:=fun u id ca2 hu hid hca=>by
    rw[hi1e,hn1];rw[hn1] at hca;refine⟨⟨hnx u hu,hi1,hca,hco,g5.more hid [iI] 1 rfl,fun m hm=>?_⟩,hmu⟩
    rw[ke7,qB];by_cases e:m=n
    ·rw[if_pos e,if_pos e,g1]
    ·rw[if_neg e,if_neg e];exact g6 m (by omega)
   clear hnx hco g4 g5 g6 hgd hvgd hcon hgt hlss hadd hto hmu hi1 hp hvv hv;cbv;rw[hc1];cbv;rw[hti,hadd0,hvln,hvi,hgv];refine⟨hr,⟨hiL⟩,⟨hiL⟩,?_⟩
   cbv;rw[hcv];refine⟨fun _=>rfl,fun _=>rfl,⟨Nat.le_refl _⟩,⟨Nat.le_refl _⟩,?_,fun _=>rfl,fun _=>rfl,fun _=>rfl,?_⟩
   ·rw[had1];exact hfit
   intro cc jv hcc;have hcc':n1≤cc:=by rw[←had1];exact hcc.out
   cbv;rw[had1];obtain⟨u,hu⟩:∃u,u=vb .add .i64 iI 1:=⟨_,rfl⟩;rw[←hu];refine Cv.frz2 (b:=2) (j:=1) (fun id m=>[.int .u64 (qC k n v m),.val (.slice (some ⟨kag x n id m,0,none⟩) (kag ln n 1 m) (kag cp n 1 m))]) (by rfl) rfl (by simp) rfl (fun σ w h=>kn6 h) (by rfl) (by rfl)
    (fun σ id hσ m hm=>kjD k x ln cp n v 2 1 1 id σ hσ m (by rw[←hn1];exact hm)) (fun id hid=>?_)
   have hf:=hfin u id cc hu hid hcc';refine Cv.fold ([7,8]++[21,22,23,24,25,26,27,28,29,30,31,32,33,34,35]) 2 [1] (by exact Nat.le_refl _) (by exact Nat.le_of_ble_eq_true rfl) (by rfl) (by cbv) ?_
   intro js2;exact⟨(_,i1,n1,cc,_,_,_,_,kag cp n 1,_,_),hf,js2,rfl⟩
  ·have hgv:vc .gtr v 0=false:=by rw[hgt];exact decide_eq_false hp
   have hco:=g4.no (by rw[hL];exact hiL) (by rw[←hv];exact hp);have hfin:∀(u:Int),u=vb .add .i64 iI 1→(u=i1∧i1≤L∧n≤ca∧CoinsTo l i1 n k s∧ColdS c n x ln S∧∀m,m<n→S m=[(s m:Int)])∧L-i1<L-i:=fun u hu=>by
    rw[hi1e];exact⟨⟨hnx u hu,hi1,g3,hco,g5,g6⟩,hmu⟩
   clear hnx hco g4 g5 g6 hgd hvgd hcon hgt hlss hadd hto hmu hi1 hp hvv hv hcv;cbv;rw[hc1];cbv;rw[hti,hadd0,hvln,hvi,hgv];refine⟨hr,⟨hiL⟩,⟨hiL⟩,?_⟩
   cbv;obtain⟨u,hu⟩:∃u,u=vb .add .i64 iI 1:=⟨_,rfl⟩;rw[←hu];have hf:=hfin u hu;refine Cv.fold ([7,8]++[21,22,23,24,25,26,27,28,29,30,31,32,33,34,35]) 2 [1] (by exact Nat.le_refl _) (by exact Nat.le_of_ble_eq_true rfl) (by rfl) (by cbv) ?_
   intro js2;exact⟨(_,i1,n,ca,_,_,_,_,_,_,_),hf,js2,rfl⟩
 ·have hc1:vc .lss iI LI=false:=by rw[hlss iI LI i L g1 hLI];exact decide_eq_false hiL
  have hiL2:i=L:=Nat.le_antisymm g2 (Nat.le_of_not_lt hiL);subst hiL2;have hnum:=g4.num;rw[←hL,htake] at hnum;obtain⟨nI,hnI⟩:∃nI,nI=(n:Int):=⟨_,rfl⟩;have hofn:vofN n=nI:=by rw[qofN,hnI]
  have hA1:vc .gtr LI 1024=decide (1024<i):=by rw[qc,hLI];exact klu (j:=1024) rfl rfl
  have hA2:vc .lss most 1=decide (most<1):=by rw[qc];rfl
  have hA3:vc .gtr most 15=decide (15<most):=by rw[qc];rfl
  have hA4:vc .lss nI 2=decide (n<2):=hlss nI 2 n 2 hnI rfl;have hA5:1≤most→most≤15→jf (vw .u64 most)∧vc .gtr nI (vb .shl .i64 1 (vw .u64 most))=decide (2^most.toNat<n):=fun h1 h2=>by
   have e1:vw .u64 most=most:=by rw[qw];exact wrap_u64 (by omega) (by omega)
   have e2:vb .shl .i64 1 most=((2^most.toNat:Nat):Int):=by
    rw[qb];have:most=1∨most=2∨most=3∨most=4∨most=5∨most=6∨most=7∨most=8∨most=9∨most=10∨most=11∨most=12∨most=13∨most=14∨most=15:=by omega
    rcases this with h|h|h|h|h|h|h|h|h|h|h|h|h|h|h<;>subst h<;>decide
   rw[e1];exact⟨⟨by omega⟩,by rw[e2,qc];exact klu hnI rfl⟩
  have hAbl:Abl l most↔¬1024<i∧¬most<1∧¬15<most∧¬n<2∧¬2^most.toNat<n:=by
   unfold Abl;rw[hL,←hnum];omega
  have hbad:¬(¬1024<i∧¬most<1∧¬15<most∧¬n<2∧¬2^most.toNat<n)→PT (.tup [.val (.slice none 0 0),.int .i64 2]) [.ro .u32 l] []:=fun h=>hB (fun h'=>h (hAbl.1 h'))
  have hgood:(¬1024<i∧¬most<1∧¬15<most∧¬n<2∧¬2^most.toNat<n)→∀o,LimP l most o→PT (.tup [.slice 1 .z 1 i i,.int .i64 0]) [.ro .u32 l,.ints 5 .u8 o] []:=fun h=>hG (hAbl.2 h)
  clear hB hG hAbl hcon hgt hiL g2;generalize hbk:(¬1024<i∧¬most<1∧¬15<most∧¬n<2∧¬2^most.toNat<n)=BK at *;by_cases c1:1024<i
  ·have hb:=hbad (by rw[←hbk];exact fun h=>h.1 c1);clear hbad hgood g4 g5 g6 hnum hlss hadd;cbv;rw[hc1];cbv;rw[hof,hA1,decide_eq_true c1];cbv;refine⟨[0],.tup [.val (.slice none 0 0),.lit .i64 2],[.ro .u32 l],rfl,rfl,rfl,rfl,?_,hb⟩
   cbv
  by_cases c2:most<1
  ·have hb:=hbad (by rw[←hbk];exact fun h=>h.2.1 c2);clear hbad hgood g4 g5 g6 hnum hlss hadd;cbv;rw[hc1];cbv;rw[hof,hA1,decide_eq_false c1];cbv;rw[hA2,decide_eq_true c2];cbv;refine⟨[0],.tup [.val (.slice none 0 0),.lit .i64 2],[.ro .u32 l],rfl,rfl,rfl,rfl,?_,hb⟩
   cbv
  by_cases c3:15<most
  ·have hb:=hbad (by rw[←hbk];exact fun h=>h.2.2.1 c3);clear hbad hgood g4 g5 g6 hnum hlss hadd;cbv;rw[hc1];cbv;rw[hof,hA1,decide_eq_false c1];cbv;rw[hA2,decide_eq_false c2];cbv;rw[hA3,decide_eq_true c3];cbv;refine⟨[0],.tup [.val (.slice none 0 0),.lit .i64 2],[.ro .u32 l],rfl,rfl,rfl,rfl,?_,hb⟩
   cbv
  by_cases c4:n<2
  ·have hb:=hbad (by rw[←hbk];exact fun h=>h.2.2.2.1 c4);clear hbad hgood g4 g5 g6 hnum hlss hadd;cbv;rw[hc1];cbv;rw[hof,hA1,decide_eq_false c1];cbv;rw[hA2,decide_eq_false c2];cbv;rw[hA3,decide_eq_false c3];cbv;rw[hofn,hA4,decide_eq_true c4];cbv;refine⟨[0],.tup [.val (.slice none 0 0),.lit .i64 2],[.ro .u32 l],rfl,rfl,rfl,rfl,?_,hb⟩
   cbv
  obtain⟨hA6,hA7⟩:=hA5 (by omega) (by omega);by_cases c5:2^most.toNat<n
  ·have hb:=hbad (by rw[←hbk];exact fun h=>h.2.2.2.2 c5);have hA8:=decide_eq_true c5;rw[hA8] at hA7;clear hbad hgood g4 g5 g6 hnum hlss hadd hbk c5 hA8;cbv;rw[hc1];cbv;rw[hof,hA1,decide_eq_false c1];cbv;rw[hA2,decide_eq_false c2];cbv;rw[hA3,decide_eq_false c3];cbv;rw[hofn,hA4,decide_eq_false c4];cbv;refine⟨hA6,?_⟩
   rw[hofn,hA7];cbv;refine⟨[0],.tup [.val (.slice none 0 0),.lit .i64 2],[.ro .u32 l],rfl,rfl,rfl,rfl,?_,hb⟩
   cbv
  have hfin:=hgood (by rw[←hbk];exact⟨c1,c2,c3,c4,c5⟩);rw[decide_eq_false c5] at hA7;have hb1:1≤most:=by omega
  have hb2:most≤15:=by omega
  have hn2:2≤n:=by omega
  have hnP:n≤2^most.toNat:=by omega
  have hi1024:i≤1024:=by omega
  clear hbad hgood hbk;have hris1:=hris k x ln cp n ca ca (by have:2^most.toNat≤2^15:=Nat.pow_le_pow_right (by omega) (by omega);omega);have M1:=Le.mk hi1024;have M2:=Le.mk hn2;have M3:=Le.mk hnP;clear hA5 c5 hnP;cbv;rw[hc1];cbv;rw[hof,hA1,decide_eq_false c1];cbv;rw[hA2,decide_eq_false c2];cbv;rw[hA3,decide_eq_false c3];cbv;rw[hofn,hA4,decide_eq_false c4];cbv;refine⟨hA6,?_⟩
  rw[hofn,hA7];cbv;refine ka (ρ:=[(1,.z)]) hris1 ⟨by rfl,by rfl,by rfl,by cbv;rw[kD];((repeat' first|(refine And.intro ?_ ?_)|exact trivial|exact⟨Nat.le_refl _⟩|exact kb _|exact fun _=>rfl|(simp only[renL3];done)|(show SB.roA _ _ _=SB.roA _ _ _;rfl)|exact funext fun _=>rfl)<;>rfl)⟩ ?_
  rintro v H R js2 ⟨rfl,rfl,q,⟨z1,z2,z3⟩,rfl⟩;cbv;(repeat refine And.intro (fun _=>rfl) ?_);rw[kD];obtain⟨y1,y2,y3,y4,y5⟩:=khM (by rw[hL];exact g4) (fun i hi=>(hgd i (by rw[←hL];exact hi)).2) z1 z3;have y6:=g5.perm q y5;have hrow1:RowP n (fun m=>k (q m)) (fun m=>s (q m)) 1 n (fun m=>k (q m)) (fun m=>S (q m)):=.one (fun i hi=>⟨rfl,g6 (q i) (y5 i hi)⟩);obtain⟨kc,hkc⟩:∃kc,kc=fun m=>k (q m):=⟨_,rfl⟩
  obtain⟨sc,hsc⟩:∃kc,kc=fun m=>s (q m):=⟨_,rfl⟩
  obtain⟨xc,hxc⟩:∃kc,kc=fun m=>x (q m):=⟨_,rfl⟩
  obtain⟨lc,hlc⟩:∃kc,kc=fun m=>ln (q m):=⟨_,rfl⟩
  obtain⟨cc,hcc⟩:∃kc,kc=fun m=>cp (q m):=⟨_,rfl⟩
  obtain⟨Sc,hSc⟩:∃kc,kc=fun m=>S (q m):=⟨_,rfl⟩
  have y7:∀m,m<n→Sc m=[(sc m:Int)]:=fun m hm=>by rw[hSc,hsc];exact g6 (q m) (y5 m hm)
  have hkeq:(fun m=>[SV.int .u64 (k (q m)),.val (.slice (some ⟨x (q m),0,none⟩) (ln (q m)) (cp (q m)))])=fun m=>[.int .u64 (kc m),.val (.slice (some ⟨xc m,0,none⟩) (lc m) (cc m))]:=by
   rw[hkc,hxc,hlc,hcc]
  rw[hkeq];rw[←hkc,←hsc,←hSc] at hrow1;rw[←hxc,←hlc,←hSc] at y6;rw[←hkc] at y1;replace y2:∀i,i<n→kc i=l.getD (sc i) 0∧sc i<l.length:=by rw[hkc,hsc];exact y2
  replace y3:∀a b,a<n→b<n→sc a=sc b→a=b:=by rw[hsc];exact y3
  replace y4:∀t,t<l.length→0<l.getD t 0→∃m,m<n∧sc m=t:=by rw[hsc];exact y4
  clear z1 z2 z3 y5 g4 g5 g6 hkeq hkc hsc hxc hlc hcc hSc hris1;have hn0:0<n:=by have:=M2.out;omega
  obtain⟨mo,hmo1⟩:∃mo:Nat,most=((mo+1:Nat):Int):=⟨most.toNat-1,by omega⟩;have hmo2:mo+1≤15:=by omega
  have hmt:most.toNat=mo+1:=by omega
  obtain⟨mI,hmI⟩:∃mI,mI=vb .sub .i64 most 1:=⟨_,rfl⟩;have hmI2:mI=(mo:Int):=by rw[hmI,qb,ky (by omega) (by omega)];omega
  have hcold0:∀id,c id=none→kbA c id (.rows 2 n (keW kc xc lc cc)) id=some (.rows 2 n (keW kc xc lc cc))∧ColdS (kbA c id (.rows 2 n (keW kc xc lc cc))) n xc lc Sc:=fun id hid=>⟨kfS _ _ _,y6.upd hid⟩
  rw[←hmI];refine WX.cv (Cv.frz1 (b:=1) (C:=.rows 2 n (keW kc xc lc cc)) (by rfl) rfl (by simp) rfl (fun σ w h=>kiW _ hn0 (fun σ i hi=>kb5 kc xc lc cc σ i) h) (fun id hid=>?_))
  refine Cv.warm 6 2 (id:=id) (len:=n) (cap:=ca) (B:=.roA 2 n (fun m=>[.int .u64 (kc m),.val (.slice (some ⟨xc m,0,none⟩) (lc m) (cc m))])) (by rfl) (hcold0 id hid).1 (fun σ w h=>kd0 (fun σ i hi=>kb5 kc xc lc cc σ i) h) rfl (by cbv) (Cv.here ?_)
  have hinv:(0:Int)=((0:Nat):Int)∧0≤mo∧koQ n kc sc xc lc Sc (0+1) n id ca kc xc lc cc Sc (kbA c id (.rows 2 n (keW kc xc lc cc))):=⟨rfl,Nat.zero_le _,⟨hrow1,g3,(hcold0 id hid).1,(hcold0 id hid).2,(hcold0 id hid).2⟩⟩;generalize kbA c id (.rows 2 n (keW kc xc lc cc))=c0 at *;clear hcold0 y6 hid g3 hrow1;cbv;refine kd1 (α:=Int×Nat×Nat×Nat×Nat×(Nat→Int)×(Nat→Nat)×(Nat→Nat)×(Nat→Nat)×(Nat→List Int)×(Nat→Option CB)) ([11,12]++[60,61,62,63,64]++[67,68,69,70,71,72,73,74,75,76,77,78,79,80,81,82,83,84,85,86,87,88,89,90,91,92,93,94,95,96,97,98,99,100,101,102,103,104,105,106,107,108,109,110,111]) [1,3,5]
   (fun(jI,j,N,idr,capr,K,x,ln,cp,S,c)=>[(66,.int .i64 jI),(10,.val (.slice (some ⟨idr,0,none⟩) N capr))])
   (fun _=>[])
   (fun(jI,j,N,idr,capr,K,x,ln,cp,S,c)=>c)
   (fun(jI,j,N,idr,capr,K,x,ln,cp,S,c)=>jI=j∧j≤mo∧koQ n kc sc xc lc Sc (j+1) N idr capr K x ln cp S c)
   (fun(jI,j,N,idr,capr,K,x,ln,cp,S,c)=>mo-j) hw hm ?_ ?_
  ·refine Cv.genAt [66] [] (Cv.fold ([11,12]++[60,61,62,63,64]++[67,68,69,70,71,72,73,74,75,76,77,78,79,80,81,82,83,84,85,86,87,88,89,90,91,92,93,94,95,96,97,98,99,100,101,102,103,104,105,106,107,108,109,110,111]) 3 [1,3,5] (by exact Nat.le_refl _) (by exact Nat.le_of_ble_eq_true rfl) (by rfl) (by cbv) ?_)
   intro js2;exact⟨(_,0,_,_,_,_,_,_,_,_,_),hinv,js2,rfl⟩
  clear hinv;rintro⟨jI,j,N,idr,capr,K,x,ln,cp,S,c⟩ js2 ⟨f1,f2,f3⟩;by_cases hj:j<mo
  ·have hc2:vc .lss jI mI=true:=by rw[hlss jI mI j mo f1 hmI2];exact decide_eq_true hj
   obtain⟨_,hRB⟩:=f3.row.basic y1 (by decide);have hNn:N≤2*n:=hRB.n2;have hn15:n≤32768:=by have:=M3.out;rw[hmt] at this;have:2^(mo+1)≤2^15:=Nat.pow_le_pow_right (by omega) hmo2;omega
   have hfit0:Fits n 32:=⟨by omega⟩;have hadd00:vaddN 0 n=n:=hadd0 n;have hB1:∀m,m<N→0≤K m∧K m≤4294967295*32768∧(S m).length≤32768∧0<(S m).length:=fun m hm=>by
    have e1:=hRB.pos m hm;have e2:=hRB.le m hm;have e3:=hRB.len m hm;have e4:(2:Nat)^(j+1-1)≤2^15:=Nat.pow_le_pow_right (by omega) (by omega);have e5:(4294967295:Int)*((2^(j+1-1):Nat):Int)≤4294967295*32768:=Int.mul_le_mul_of_nonneg_left (by omega) (by decide);omega
   have hat:=f3.at';have hrow:=f3.row;have hofN:vofN N=(N:Int):=by rw[qofN]
   obtain⟨NI,hNI⟩:∃NI,NI=(N:Int):=⟨_,rfl⟩;rw[←hNI] at hofN;have hinv1:∀ca3:Nat,n≤ca3→(0:Int)=((2*0:Nat):Int)∧n=n+0∧n≤ca3∧NextIn n kc xc lc Sc N 0 K S x ln kc xc lc Sc c:=fun ca3 h=>⟨rfl,rfl,h,⟨Nat.zero_le _,fun m _=>⟨rfl,rfl⟩,fun d hd=>absurd hd (Nat.not_lt_zero d),f3.coins,f3.syms,f3.coins⟩⟩
   clear hRB f3;cbv;rw[hc2];cbv;refine⟨fun _=>rfl,⟨Nat.le_of_eq hadd00⟩,⟨Nat.le_refl _⟩,hfit0,fun _=>rfl,fun _=>rfl,fun _=>rfl,?_⟩
   intro ca3 jv hca3;have hca3':n≤ca3:=hca3.out;have hinv2:=hinv1 ca3 hca3';clear hinv1 hca3;cbv;refine WX.cv (Cv.warm 10 2 (id:=idr) (len:=N) (cap:=capr) (B:=.roA 2 N (fun m=>[.int .u64 (K m),.val (.slice (some ⟨x m,0,none⟩) (ln m) (cp m))])) (by rfl) hat (fun σ w h=>kd0 (fun σ i hi=>kb5 K x ln cp σ i) h) rfl (by cbv;exact⟨fun _=>rfl,fun _=>rfl,trivial⟩) (Cv.here ?_))
   cbv;refine kd1 (α:=Int×Nat×Nat×Nat×(Nat→Int)×(Nat→Nat)×(Nat→Nat)×(Nat→Nat)×(Nat→List Int)×(Nat→Option CB)) [68,69,70,71,72,73,74,75,76,77,78,79,80,81,82,83,84,85,86,87,88,89,90,91,92,93,94,95,96,97,98,99,100,101,102,103,104,105,106,107] [1,3,5]
    (fun(kI,e,M,ca3,k0,x0,l0,c0,S0,c)=>[(12,.int .i64 kI),(11,.slice 3 .z 2 M ca3)])
    (fun(kI,e,M,ca3,k0,x0,l0,c0,S0,c)=>[(3,.bufA 201 2 M (fun m=>[.int .u64 (k0 m),.val (.slice (some ⟨x0 m,0,none⟩) (l0 m) (c0 m))]) ca3)])
    (fun(kI,e,M,ca3,k0,x0,l0,c0,S0,c)=>c)
    (fun(kI,e,M,ca3,k0,x0,l0,c0,S0,c)=>kI=((2*e:Nat):Int)∧M=n+e∧M≤ca3∧NextIn n kc xc lc Sc N e K S x ln k0 x0 l0 S0 c)
    (fun(kI,e,M,ca3,k0,x0,l0,c0,S0,c)=>N-e) hw hm ?_ ?_
   ·refine Cv.genAt [12] [] (Cv.fold [68,69,70,71,72,73,74,75,76,77,78,79,80,81,82,83,84,85,86,87,88,89,90,91,92,93,94,95,96,97,98,99,100,101,102,103,104,105,106,107] 5 [1,3,5] (by exact Nat.le_refl _) (by exact Nat.le_of_ble_eq_true rfl) (by rfl) (by cbv) ?_)
    intro js3;exact⟨(_,0,_,_,_,_,_,_,_,_),hinv2,js3,rfl⟩
   clear hinv2 hca3' hat;rintro⟨kI,e,M,ca4,k0,x0,l0,c0,S0,c⟩ js3 ⟨h1,h2,h3,h4⟩;obtain⟨k1I,hk1⟩:∃u,u=vb .add .i64 kI 1:=⟨_,rfl⟩;have hk1':k1I=((2*e+1:Nat):Int):=hk1.trans (hadd kI 1 (2*e) 1 h1 rfl (by have:=h4.le;omega));have hc3':vc .lss k1I NI=decide (2*e+1<N):=hlss k1I NI (2*e+1) N hk1' hNI;by_cases he:2*e+1<N
   ·have hc3:vc .lss k1I NI=true:=by rw[hc3'];exact decide_eq_true he
    have hr0:InR kI N:=⟨by omega⟩;have hr1:InR k1I N:=⟨by omega⟩;obtain⟨E0,hE0⟩:∃E0,E0=2*e:=⟨_,rfl⟩;obtain⟨E1,hE1⟩:∃E0,E0=2*e+1:=⟨_,rfl⟩;have ht0:vtoN kI=E0:=by rw[hE0];exact hto kI _ h1
    have ht1:vtoN k1I=E1:=by rw[hE1];exact hto k1I _ hk1'
    have hl0:E0<N:=by omega
    have hl1:E1<N:=by omega
    have hN0:0<N:=by omega
    obtain⟨b0,b1,b2,b6⟩:=hB1 E0 hl0;obtain⟨b3,b4,b5,b7⟩:=hB1 E1 hl1;have hsum:vb .add .u64 (K E0) (K E1)=K E0+K E1:=by rw[qb];exact wrap_u64 (by omega) (by omega)
    obtain⟨u1,u2⟩:=h4.syms.out E0 hl0;obtain⟨u3,u4⟩:=h4.syms.out E1 hl1;have hle0:ln E0≤vln (S E0):=by rw[qln];exact Nat.le_of_eq u2
    have hle1:ln E1≤vln (S E1):=by rw[qln];exact Nat.le_of_eq u4
    have hsub0:vsub (S E0) 0 (ln E0)=S E0:=by rw[qsub,u2];simp
    have hsub1:vsub (S E1) 0 (ln E1)=S E1:=by rw[qsub,u4];simp
    have hon0:∀xs,vonto [] 0 xs=xs:=fun xs=>by rw[qonto];simp
    have hon1:vonto (S E0) (ln E0) (S E1)=S E0++S E1:=by rw[qonto,u2];simp
    have had0:∀m,vaddN 0 m=m:=hadd0;have hfa:Fits (ln E0) 8:=⟨by omega⟩;have hfb:Fits (vaddN (ln E0) (ln E1)) 8:=⟨by rw[qaddN];show(ln E0+ln E1)*8≤_;omega⟩;have hln0:vln []=0:=by rw[qln];rfl
    have hpl:0<(S E0++S E1).length:=by rw[List.length_append];omega
    obtain⟨e1,he1⟩:∃e1,e1=e+1:=⟨_,rfl⟩;obtain⟨M1,hM1⟩:∃M1,M1=vaddN M 1:=⟨_,rfl⟩;have hM1':M1=n+e1:=by rw[hM1,qaddN,he1,h2];rfl
    have hM1'':M1=M+1:=by rw[hM1,qaddN]
    have hfitM:Fits M1 32:=⟨by have:=h4.le;omega⟩;have hlenS:∀lenT,lenT=vaddN (ln E0) (ln E1)→lenT=(S E0++S E1).length:=fun lenT h=>by rw[h,qaddN,List.length_append,u2,u4]
    have hk2:∀u:Int,u=vb .add .i64 kI 2→u=((2*e1:Nat):Int):=fun u hu=>by rw[hu,hadd kI 2 (2*e) 2 h1 rfl (by omega),he1];rfl
    have hstep:∀(id lenT:Nat),c id=none→lenT=(S E0++S E1).length→NextIn n kc xc lc Sc N e1 K S x ln (qC k0 M (K E0+K E1)) (kag x0 M id) (kag l0 M lenT) (kkN S0 M (S E0++S E1)) (kbA c id (.ints .i64 (S E0++S E1))):=fun id lenT hid hl=>by
     rw[hE0,hE1,he1,h2] at *
     exact h4.step (by omega) hid lenT hl
    have hmu:N-e1<N-e:=by omega
    obtain⟨KK,hKK⟩:∃KK,KK=K E0+K E1:=⟨_,rfl⟩;obtain⟨SS,hSS⟩:∃SS,SS=S E0++S E1:=⟨_,rfl⟩;rw[←hKK] at hsum hstep;rw[←hSS] at hon1 hpl hlenS hstep;clear h4 hKK hSS;clear hc3' hB1;cbv;rw[←hk1,hofN,hc3];cbv;rw[←hk1,ht0,ht1];repeat (refine And.intro (by first|exact hr0|exact hr1|exact⟨hl0⟩|exact⟨hl1⟩|exact⟨hN0⟩|(rw[hadd0];first|exact⟨hl0⟩|exact⟨hl1⟩)|exact fun _=>rfl) ?_)
    refine⟨⟨⟨hl1⟩,trivial⟩,⟨⟨hl0⟩,trivial⟩,⟨⟨hl1⟩,trivial⟩,⟨⟨hl0⟩,trivial⟩,S E0,u1,⟨hle0⟩,?_⟩
    cbv;rw[hsub0];refine⟨⟨by rw[hln0];exact Nat.le_refl _⟩,⟨by rw[hln0];exact Nat.le_refl _⟩,by rw[had0];exact hfa,fun _=>rfl,fun _=>rfl,fun _=>rfl,?_⟩
    intro cA jA hcA;have hcA':ln E0≤cA:=by rw[←had0 (ln E0)];exact hcA.out
    clear hcA;cbv;rw[had0,hon0];refine⟨⟨⟨hl1⟩,trivial⟩,⟨⟨hl1⟩,trivial⟩,⟨⟨hl0⟩,trivial⟩,S E1,u3,⟨hle1⟩,?_⟩
    cbv;rw[hsub1];refine⟨⟨hle0⟩,⟨Nat.le_refl _⟩,hfb,fun _=>rfl,fun _=>rfl,fun _=>rfl,?_⟩
    intro cB jB hcB;obtain⟨lenT,hlenT⟩:∃lenT,lenT=vaddN (ln E0) (ln E1):=⟨_,rfl⟩;have hcB':lenT≤cB:=by rw[hlenT];exact hcB.out
    clear hcB;cbv;rw[←hlenT,hon1,hsum];refine⟨⟨⟨hl1⟩,trivial⟩,⟨⟨hl0⟩,trivial⟩,fun _=>rfl,fun _=>rfl,fun _=>rfl,⟨⟨hl1⟩,trivial⟩,⟨⟨hl0⟩,trivial⟩,⟨Nat.le_refl _⟩,⟨Nat.le_refl _⟩,?_,fun _=>rfl,fun _=>rfl,fun _=>rfl,fun _=>rfl,fun _=>rfl,?_⟩
    ·rw[←hM1];exact hfitM
    intro cC jC hcC;have hcC':M1≤cC:=by rw[hM1];exact hcC.out
    clear hcC;cbv;rw[←hM1];refine⟨⟨⟨hl1⟩,trivial⟩,⟨⟨hl0⟩,trivial⟩,?_⟩
    obtain⟨k2I,hk2I⟩:∃u,u=vb .add .i64 kI 2:=⟨_,rfl⟩;rw[←hk2I];have hk2':=hk2 k2I hk2I;refine Cv.frz2 (b:=5) (j:=3) (fun id m=>[.int .u64 (qC k0 M KK m),.val (.slice (some ⟨kag x0 M id m,0,none⟩) (kag l0 M lenT m) (kag c0 M cB m))]) (by rfl) rfl (by simp) rfl (fun σ w h=>kph hpl h) (by rfl) (by rfl)
     (fun σ id hσ m hm=>kjD k0 x0 l0 c0 M KK 5 lenT cB id σ hσ m (by rw[←hM1''];exact hm)) (fun id hid=>?_)
    have hf:=hstep id lenT hid (hlenS lenT hlenT);refine Cv.fold [68,69,70,71,72,73,74,75,76,77,78,79,80,81,82,83,84,85,86,87,88,89,90,91,92,93,94,95,96,97,98,99,100,101,102,103,104,105,106,107] 5 [1,3,5] (by exact Nat.le_refl _) (by exact Nat.le_of_ble_eq_true rfl) (by rfl) (by cbv) ?_
    intro js4;exact⟨(_,e1,M1,cC,_,_,_,kag c0 M cB,_,_),⟨⟨hk2',hM1',hcC',hf⟩,hmu⟩,js4,rfl⟩
   ·have hc3:vc .lss k1I NI=false:=by rw[hc3'];exact decide_eq_false he
    have heN:e=N / 2:=by have:=h4.le;omega
    subst heN;have hMb:M≤100000:=by omega
    have hM0:0<M:=by omega
    have hris2:=hris k0 x0 l0 c0 M ca4 ca4 hMb;obtain⟨j1,hj1⟩:∃j1,j1=j+1:=⟨_,rfl⟩;have hju:∀u:Int,u=vb .add .i64 jI 1→(u=(j1:Int)∧j1≤mo)∧mo-j1<mo-j:=fun u hu=>⟨⟨by rw[hu,hj1];exact hadd jI 1 j 1 f1 rfl (by omega),by omega⟩,by omega⟩
    have hdone:∀(q:Nat→Nat) (id:Nat),PermOn (fun m=>m) q 0 M→St k0 q→Srt k0 q 0 M→c id=none →
      koQ n kc sc xc lc Sc (j1+1) M id ca4 (fun m=>k0 (q m)) (fun m=>x0 (q m)) (fun m=>l0 (q m)) (fun m=>c0 (q m)) (fun m=>S0 (q m)) (kbA c id (.rows 2 M (keW (fun m=>k0 (q m)) (fun m=>x0 (q m)) (fun m=>l0 (q m)) (fun m=>c0 (q m))))):=fun q id z1 z2 z3 hid=>by
     rw[h2] at z1 z3;obtain⟨r1,r2⟩:=h4.done hrow y7 z1 z2 z3;rw[←h2] at r1 r2;rw[hj1];exact⟨r1,h3,kfS _ _ _,r2.upd hid,h4.coins.upd hid⟩
    clear h4 hrow hB1 hc3' hris he hMb;cbv;rw[←hk1,hofN,hc3];cbv;refine ka (ρ:=[(3,.z)]) hris2 ⟨by rfl,by rfl,by rfl,by cbv;rw[kD];((repeat' first|(refine And.intro ?_ ?_)|exact trivial|exact⟨Nat.le_refl _⟩|exact kb _|exact fun _=>rfl|(simp only[renL3];done)|(show SB.roA _ _ _=SB.roA _ _ _;rfl)|exact funext fun _=>rfl)<;>rfl)⟩ ?_
    rintro v H R js4 ⟨rfl,rfl,q,⟨z1,z2,z3⟩,rfl⟩;cbv;(repeat refine And.intro (fun _=>rfl) ?_);rw[kD];obtain⟨u,hu⟩:∃u,u=vb .add .i64 jI 1:=⟨_,rfl⟩;rw[←hu];have hju':=hju u hu;refine Cv.frz1 (b:=3) (C:=.rows 2 M (keW (fun m=>k0 (q m)) (fun m=>x0 (q m)) (fun m=>l0 (q m)) (fun m=>c0 (q m)))) (by rfl) rfl (by simp) rfl (fun σ w h=>kiW _ hM0 (fun σ i hi=>kb5 (fun m=>k0 (q m)) (fun m=>x0 (q m)) (fun m=>l0 (q m)) (fun m=>c0 (q m)) σ i) h) (fun id hid=>?_)
    have hf:=hdone q id z1 z2 z3 hid;refine Cv.fold ([11,12]++[60,61,62,63,64]++[67,68,69,70,71,72,73,74,75,76,77,78,79,80,81,82,83,84,85,86,87,88,89,90,91,92,93,94,95,96,97,98,99,100,101,102,103,104,105,106,107,108,109,110,111]) 3 [1,3,5] (by exact Nat.le_refl _) (by exact Nat.le_of_ble_eq_true rfl) (by rfl) (by cbv) ?_
    intro js5;exact⟨(_,j1,M,id,ca4,_,_,_,_,_,_),⟨⟨hju'.1.1,hju'.1.2,hf⟩,hju'.2⟩,js5,rfl⟩
  ·have hc2:vc .lss jI mI=false:=by rw[hlss jI mI j mo f1 hmI2];exact decide_eq_false hj
   have hjm:j=mo:=Nat.le_antisymm f2 (Nat.le_of_not_lt hj);subst hjm;obtain⟨_,hRB⟩:=f3.row.basic y1 (by decide);have hmany:=f3.row.many (L:=j+1) (by have:=M3.out;rwa [hmt] at this) 0 rfl;obtain⟨T,hT⟩:∃T,T=2*n-2:=⟨_,rfl⟩;have hn2':=M2.out;have hTN:T≤N:=by omega
   have hn15:n≤32768:=by have:=M3.out;rw[hmt] at this;have:2^(j+1)≤2^15:=Nat.pow_le_pow_right (by omega) hmo2;omega
   obtain⟨tI,htI⟩:∃u,u=vb .mul .i64 2 (vb .sub .i64 nI 1):=⟨_,rfl⟩;have hnI2:nI=(n:Int):=hnI;have hLI2:LI=(i:Int):=hLI;have htI':tI=(T:Int):=by rw[htI,qb,hnI2,ky (by omega) (by omega),qV (by omega) (by omega)];omega
   have hnn:jf LI:=⟨by omega⟩;have htoL:vtoN LI=i:=hto LI i hLI;have hicL:InC LI i:=⟨by omega⟩;have hfmL:kcC LI 1:=⟨by have:=hlen'.out;omega⟩;have htoT:vtoN tI=T:=hto tI T htI';have hcapN:=f3.cap;have hicT:InC tI capr:=⟨by omega⟩;have hofT:vofN T=tI:=by rw[qofN,htI']
   have hrep:vrep i 0=List.replicate i 0:=by rw[qrep]
   have hsym:∀t,t<N→(∃r,c (x t)=some (.ints .i64 (S t))∧r=ln t∧ln t=(S t).length)∧∀y∈S t,∃z:Nat,y=(z:Int)∧z<i:=fun t ht=>⟨⟨_,(f3.syms.out t ht).1,rfl,(f3.syms.out t ht).2⟩,fun y hy=>by
    obtain⟨z,h1,h2⟩:=hRB.sym t ht y hy;exact⟨sc z,h2,by rw[←hL];exact(y2 z h1).2⟩⟩
   have hlim:∀o,OutP S i T 0 o→PT (.tup [.slice 1 .z 1 i i,.int .i64 0]) [.ro .u32 l,.ints 5 .u8 o] []:=fun o ho=>by
    obtain⟨o1,o2⟩:=ho.out;refine hfin o ⟨n,N,kc,sc,K,S,hnum,y1,y2,y3,y4,by rw[hmt];exact f3.row,by rw[←hT];exact hTN,by rw[o1,hL],fun s hs=>?_⟩
    rw[o2 s (by rw[←hL];exact hs),hT];simp[kaT]
   have hat:=f3.at';have hlenN:∀t,t<N→ln t≤32768:=fun t ht=>by
    have e3:=(hRB.len t ht).1;have e4:(2:Nat)^(j+1-1)≤2^15:=Nat.pow_le_pow_right (by omega) (by omega);rw[(f3.syms.out t ht).2];omega
   have hstart:=OutP.start S i;clear hRB f3 hmany hfin y1 y2 y3 y4 y7 hnum hris hj f1 hmt hmo1 hmo2;cbv;rw[hc2];cbv;rw[hof,htoL];refine⟨hnn,hnn,hicL,hfmL,fun _=>rfl,?_⟩
   rw[hofn,←htI,hrep];generalize hzz:List.replicate i (0:Int)=oz at *;refine⟨hicT,?_⟩
   rw[htoT];cbv;rw[hofT];have hinv3:(0:Int)=((0:Nat):Int)∧0≤T∧OutP S i 0 0 oz:=⟨rfl,Nat.zero_le _,hstart⟩;have hNT:T≤N:=hTN;refine WX.cv (Cv.warm 120 2 (id:=idr) (len:=T) (cap:=capr) (B:=.roA 2 N (fun m=>[.int .u64 (K m),.val (.slice (some ⟨x m,0,none⟩) (ln m) (cp m))])) (by rfl) hat (fun σ w h=>kd0 (fun σ i hi=>kb5 K x ln cp σ i) h) rfl (by cbv;exact⟨fun _=>rfl,trivial⟩) (Cv.here ?_))
   cbv;refine kl (α:=Int×Nat×List Int) ([15,17]++[123,124,125,126,127,128,129,130,131,132,133,134,135,136,137,138,139,140]) [1,3,5]
    (fun(xI,t,o)=>[(122,.int .i64 xI)])
    (fun(xI,t,o)=>[(3,.ints 5 .u8 o)])
    (fun(xI,t,o)=>xI=t∧t≤T∧OutP S i t 0 o)
    (fun(xI,t,o)=>T-t) hw hm ?_ ?_
   ·refine Cv.genAt [122] [] (Cv.fold ([15,17]++[123,124,125,126,127,128,129,130,131,132,133,134,135,136,137,138,139,140]) 5 [1,3,5] (by exact Nat.le_refl _) (by exact Nat.le_of_ble_eq_true rfl) (by rfl) (by cbv) ?_)
    intro js3;exact⟨(_,0,_),hinv3,js3,rfl⟩
   clear hinv3 hstart hat;rintro⟨xI,t,o⟩ js3 ⟨g1,g2,g3⟩;have hc3':=hlss xI tI t T g1 htI';by_cases ht:t<T
   rotate_left
   ·have hc3:vc .lss xI tI=false:=by rw[hc3'];exact decide_eq_false ht
    have htT:t=T:=Nat.le_antisymm g2 (Nat.le_of_not_lt ht);have hpost:=hlim o (by rw[←htT];exact g3);clear hc3' g3 hsym hlim hlenN hlss hadd hto;cbv;rw[hc3];cbv;refine⟨[0,3],.tup [.slice 1 .z 1 i i,.lit .i64 0],[.ro .u32 l,.ints 5 .u8 o],rfl,rfl,rfl,rfl,?_,hpost⟩
    cbv
   ·have hc3:vc .lss xI tI=true:=by rw[hc3'];exact decide_eq_true ht
    have htN:t<N:=Nat.lt_of_lt_of_le ht hNT;obtain⟨⟨rr,v1,v2,v3⟩,v4⟩:=hsym t htN;have hrx:InR xI T:=⟨by omega⟩;have htx:=hto xI t g1;obtain⟨lI,hlI⟩:∃u,u=vofN (ln t):=⟨_,rfl⟩;have hlI':lI=(ln t:Int):=by rw[hlI,qofN]
    obtain⟨t1,ht1⟩:∃t1,t1=t+1:=⟨_,rfl⟩;have hln:=hlenN t htN;have hnx:∀(u:Int) (o':List Int),u=vb .add .i64 xI 1→OutP S i t (ln t) o'→(u=(t1:Int)∧t1≤T∧OutP S i t1 0 o')∧T-t1<T-t:=fun u o' hu ho=>by
     rw[ht1];exact⟨⟨by rw[hu];exact hadd xI 1 t 1 g1 rfl (by have:=hlen'.out;omega),by omega,ho.next v3⟩,by omega⟩
    have hinv4:(0:Int)=((0:Nat):Int)∧0≤ln t∧OutP S i t 0 o:=⟨rfl,Nat.zero_le _,g3⟩;have hT0:0<N:=by omega
    clear hc3' g3 hlim hsym hlenN;cbv;rw[hc3];cbv;rw[htx,←hlI];repeat (refine And.intro (by first|exact hrx|exact⟨htN⟩|exact⟨hT0⟩|(rw[hadd0];exact⟨htN⟩)|exact fun _=>rfl) ?_)
    refine WX.cv (Cv.warm 127 1 (id:=x t) (len:=ln t) (cap:=cp t) (B:=.ro .i64 (S t)) (by rfl) v1 (fun σ w h=>kmi h) rfl (by cbv;exact⟨fun _=>rfl,fun _=>rfl,trivial⟩) (Cv.here ?_))
    cbv;refine kl (α:=Int×Nat×List Int) ([17]++[130,131,132,133,134,135,136,137,138,139]) [1,3,5]
     (fun(rI,r,o)=>[(129,.int .i64 rI)])
     (fun(rI,r,o)=>[(3,.ints 5 .u8 o)])
     (fun(rI,r,o)=>rI=r∧r≤ln t∧OutP S i t r o)
     (fun(rI,r,o)=>ln t-r) hw hm ?_ ?_
    ·refine Cv.genAt [129] [] (Cv.fold ([17]++[130,131,132,133,134,135,136,137,138,139]) 7 [1,3,5] (by exact Nat.le_refl _) (by exact Nat.le_of_ble_eq_true rfl) (by rfl) (by cbv) ?_)
     intro js4;exact⟨(_,0,_),hinv4,js4,rfl⟩
    clear hinv4;rintro⟨rI,r,o2⟩ js4 ⟨w1,w2,w3⟩;have hc4':=hlss rI lI r (ln t) w1 hlI';by_cases hr:r<ln t
    rotate_left
    ·have hc4:vc .lss rI lI=false:=by rw[hc4'];exact decide_eq_false hr
     have hrl:r=ln t:=Nat.le_antisymm w2 (Nat.le_of_not_lt hr);have hnx2:=fun u hu=>hnx u o2 hu (by rw[←hrl];exact w3)
     clear hc4' w3 hnx v4;cbv;rw[hc4];cbv;obtain⟨u,hu⟩:∃u,u=vb .add .i64 xI 1:=⟨_,rfl⟩;rw[←hu];have hf:=hnx2 u hu;refine Cv.fold ([15,17]++[123,124,125,126,127,128,129,130,131,132,133,134,135,136,137,138,139,140]) 5 [1,3,5] (by exact Nat.le_refl _) (by exact Nat.le_of_ble_eq_true rfl) (by rfl) (by cbv) ?_
     intro js5;exact⟨(_,t1,_),hf,js5,rfl⟩
    ·have hc4:vc .lss rI lI=true:=by rw[hc4'];exact decide_eq_true hr
     have hrS:r<(S t).length:=by rw[←v3];exact hr
     obtain⟨z,hz,hzi⟩:=v4 ((S t).getD r 0) (by rw[List.getD_eq_getElem?_getD,List.getElem?_eq_getElem hrS];exact List.getElem_mem _);obtain⟨zI,hzI⟩:∃zI,zI=(z:Int):=⟨_,rfl⟩;have hg1:vgd (S t) r=zI:=by rw[qgd,hzI];exact hz
     have hvl1:r<vln (S t):=by rw[qln];exact hrS
     obtain⟨o1,o2'⟩:=w3.out;have hvl2:z<vln o2:=by rw[qln];show z<o2.length;rw[o1];exact hzi
     have hrr:InR rI (ln t):=⟨by omega⟩;have hrz:InR zI i:=⟨by omega⟩;have htr:=hto rI r w1;have htz:=hto zI z hzI;obtain⟨r1,hr1⟩:∃r1,r1=r+1:=⟨_,rfl⟩;have hstep:=w3.step hrS hz hzi;have hwr:vb .add .u8 (vgd o2 z) 1=(o2.getD z 0+1) % 256:=by
      rw[qb,qgd];show IntKind.u8.wrap (o2.getD z 0+1)=_
      simp[IntKind.wrap,IntKind.bits,IntKind.signed]
     have hst:vst o2 z ((o2.getD z 0+1) % 256)=o2.set z ((o2.getD z 0+1) % 256):=by rw[qst]
     obtain⟨o3,ho3⟩:∃o3,o3=o2.set z ((o2.getD z 0+1) % 256):=⟨_,rfl⟩;rw[←ho3] at hstep hst;have hnx3:∀u:Int,u=vb .add .i64 rI 1→(u=(r1:Int)∧r1≤ln t∧OutP S i t r1 o3)∧ln t-r1<ln t-r:=fun u hu=>by
      rw[hr1];exact⟨⟨by rw[hu];exact hadd rI 1 r 1 w1 rfl (by omega),hr,hstep⟩,by omega⟩
     obtain⟨vz,hvz⟩:∃vz,vz=(o2.getD z 0+1) % 256:=⟨_,rfl⟩;rw[←hvz] at hwr hst;clear hc4' w3 hnx v4 hstep hvz o2' ho3;cbv;rw[hc4];cbv;rw[htr,hg1,htz];refine⟨hrr,⟨by rw[hadd0];exact hvl1⟩,⟨hvl1⟩,hrz,⟨hvl2⟩,hrz,⟨hvl2⟩,?_⟩
     rw[hwr,hst];obtain⟨u,hu⟩:∃u,u=vb .add .i64 rI 1:=⟨_,rfl⟩;rw[←hu];have hf:=hnx3 u hu;refine Cv.fold ([17]++[130,131,132,133,134,135,136,137,138,139]) 7 [1,3,5] (by exact Nat.le_refl _) (by exact Nat.le_of_ble_eq_true rfl) (by rfl) (by cbv) ?_
     intro js5;exact⟨(_,r1,o3),hf,js5,rfl⟩
end
set_option maxRecDepth 100000
set_option maxHeartbeats 40000000
theorem koR {n D:Nat} {k0:Nat→Int} {q:Nat→Nat} (h:RowQ n D k0 q) {c d:Nat} (hm:c+d<n+D) (hc:c≤n) (hd:d≤D) (e4:∀y,(y<c∨(n≤y∧y<n+d))↔∃i,i<c+d∧q i=y) :
  ((D≤d∨(c<n∧k0 c≤k0 (n+d)))→q (c+d)=c)∧(¬(D≤d∨(c<n∧k0 c≤k0 (n+d)))→q (c+d)=n+d):=by
 have hq:=h.lt (c+d) hm;have hnot:¬(q (c+d)<c∨(n≤q (c+d)∧q (c+d)<n+d)):=fun hh=>by
  obtain⟨i,hi,e⟩:=(e4 _).1 hh;have:=h.inj i (c+d) (by omega) (by omega) e;omega
 have later:∀y,y<n+D→¬(y<c∨(n≤y∧y<n+d))→y≠q (c+d)→k0 (q (c+d))≤k0 y∧(k0 (q (c+d))=k0 y→q (c+d)<y):=fun y hy hno hne=>by
  obtain⟨i,hi,e⟩:=h.meet y hy;have h1:¬i<c+d:=fun hlt=>hno ((e4 y).2 ⟨i,hlt,e⟩)
  have h2:i≠c+d:=fun e'=>hne (by rw[←e,e'])
  have h3:=h.srt (c+d) i (by omega) hi;have h4:=h.st (c+d) i (by omega) hi;rw[e] at h3 h4;exact⟨h3,h4⟩
 have hor:q (c+d)=c∨q (c+d)=n+d:=by
  by_cases hcn:q (c+d)<n
  ·refine .inl (Classical.byContradiction fun hne=>?_)
   have h1:=later c (by omega) (by omega) (by omega);have h2:=h.coins c (q (c+d)) (by omega) hcn;have h3:=h1.2 (by omega);omega
  ·refine .inr (Classical.byContradiction fun hne=>?_)
   have h1:=later (n+d) (by omega) (by omega) (by omega);have h2:=h.packs (n+d) (q (c+d)) (by omega) (by omega) hq;have h3:=h1.2 (by omega);omega
 refine⟨fun hh=>?_,fun hh=>?_⟩
 ·rcases hor with e|e
  ·exact e
  ·rcases hh with hh|⟨hh1,hh2⟩
   ·omega
   ·have h1:=later c (by omega) (by omega) (by omega);rw[e] at h1;have h3:=h1.2 (by omega);omega
 ·rcases hor with e|e
  ·by_cases hcn:c<n
   ·have h1:=later (n+d) (by omega) (by omega) (by omega);rw[e] at h1;exact absurd (.inr ⟨hcn,h1.1⟩) hh
   ·rw[e] at hnot ⊢;omega
  ·exact e
inductive MG (A B:List Int):Nat→Nat→List Int→Prop
 |start:MG A B 0 0 []
 |left {i j:Nat} {out:List Int} (h:MG A B i j out) (hi:i<A.length) (hc:B.length≤j∨(i<A.length∧A.getD i 0≤B.getD j 0)):MG A B (i+1) j (out++[A.getD i 0])
 |right {i j:Nat} {out:List Int} (h:MG A B i j out) (hj:j<B.length) (hc:¬(B.length≤j∨(i<A.length∧A.getD i 0≤B.getD j 0))):MG A B i (j+1) (out++[B.getD j 0])
theorem kg9 (a:List Int) (x:Int) (t:Nat) (ht:t<a.length+1):(a++[x]).getD t 0=if t=a.length then x else a.getD t 0:=by
 rw[List.getD_eq_getElem?_getD,List.getD_eq_getElem?_getD];by_cases e:t=a.length
 ·subst e;rw[if_pos rfl];simp
 ·rw[if_neg e,List.getElem?_append_left (by omega)]
theorem MG.len {A B:List Int}:∀{i j:Nat} {out:List Int},MG A B i j out→i≤A.length∧j≤B.length∧out.length=i+j∧∀y∈out,y∈A∨y∈B:=by
 intro i j out h;induction h with
 |start=>exact⟨Nat.zero_le _,Nat.zero_le _,rfl,fun y hy=>by cases hy⟩
 |@left i j out h hi hc ih=>
  obtain⟨h1,h2,h3,h4⟩:=ih;refine⟨hi,h2,by simp[h3];omega,fun y hy=>?_⟩
  rcases List.mem_append.1 hy with hy|hy
  ·exact h4 y hy
  ·left;simp at hy;subst hy;rw[List.getElem?_eq_getElem hi];exact List.getElem_mem hi
 |@right i j out h hj hc ih=>
  obtain⟨h1,h2,h3,h4⟩:=ih;refine⟨h1,hj,by simp[h3];omega,fun y hy=>?_⟩
  rcases List.mem_append.1 hy with hy|hy
  ·exact h4 y hy
  ·right;simp at hy;subst hy;rw[List.getElem?_eq_getElem hj];exact List.getElem_mem hj
theorem MG.row {n D:Nat} {k0:Nat→Int} {q:Nat→Nat} (h:RowQ n D k0 q) {A B:List Int} (hA:A.length=n) (hB:B.length=D) (hA2:∀i,i<n→A.getD i 0=k0 i) (hB2:∀e,e<D→B.getD e 0=k0 (n+e)) :
  ∀{i j:Nat} {out:List Int},MG A B i j out→(∀y,(y<i∨(n≤y∧y<n+j))↔∃t,t<i+j∧q t=y)∧∀t,t<i+j→out.getD t 0=k0 (q t):=by
 intro i j out hm;induction hm with
 |start=>exact⟨fun y=>⟨fun hy=>by omega,fun⟨t,ht,_⟩=>by omega⟩,fun t ht=>by omega⟩
 | @left i j out hm hi hc ih=>
  obtain⟨h1,h2⟩:=ih;obtain⟨l1,l2,l3,_⟩:=hm.len;have hnx:=(koR h (by omega:i+j<n+D) (by omega) (by omega) h1).1 (by
   rcases hc with hc|⟨hc1,hc2⟩
   ·exact .inl (by omega)
   ·by_cases hj:D≤j
    ·exact .inl hj
    ·exact .inr ⟨by omega,by rw[hA2 i (by omega),hB2 j (by omega)] at hc2;exact hc2⟩)
  refine⟨fun y=>⟨fun hy=>?_,fun⟨t,ht,e⟩=>?_⟩,fun t ht=>?_⟩
  ·by_cases hyi:y=i
   ·exact⟨i+j,by omega,by rw[hnx,hyi]⟩
   ·obtain⟨t,ht,e⟩:=(h1 y).1 (by omega);exact⟨t,by omega,e⟩
  ·by_cases hti:t=i+j
   ·subst hti;omega
   ·have:=(h1 y).2 ⟨t,by omega,e⟩;omega
  ·rw[kg9 _ _ _ (by omega),l3];by_cases hti:t=i+j
   ·rw[if_pos hti,hti,hnx,hA2 i (by omega)]
   ·rw[if_neg hti];exact h2 t (by omega)
 | @right i j out hm hj hc ih=>
  obtain⟨h1,h2⟩:=ih;obtain⟨l1,l2,l3,_⟩:=hm.len;have hnx:=(koR h (by omega:i+j<n+D) (by omega) (by omega) h1).2 (fun hh=>hc (by
   rcases hh with hh|⟨hc1,hc2⟩
   ·exact .inl (by omega)
   ·exact .inr ⟨by omega,by rw[hA2 i (by omega),hB2 j (by omega)];exact hc2⟩))
  refine⟨fun y=>⟨fun hy=>?_,fun⟨t,ht,e⟩=>?_⟩,fun t ht=>?_⟩
  ·by_cases hyi:y=n+j
   ·exact⟨i+j,by omega,by rw[hnx,hyi]⟩
   ·obtain⟨t,ht,e⟩:=(h1 y).1 (by omega);exact⟨t,by omega,e⟩
  ·by_cases hti:t=i+j
   ·subst hti;omega
   ·have:=(h1 y).2 ⟨t,by omega,e⟩;omega
  ·rw[kg9 _ _ _ (by omega),l3];by_cases hti:t=i+j
   ·rw[if_pos hti,hti,hnx,hB2 j (by omega)]
   ·rw[if_neg hti];exact h2 t (by omega)
inductive RW (A:List Int):Nat→List Int→Prop
 |one:RW A 1 A
 |next {j:Nat} {R B R':List Int} (h:RW A j R) (hB:B.length=R.length / 2) (hp:∀e,e<R.length / 2→B.getD e 0=R.getD (2*e) 0+R.getD (2*e+1) 0) (hm:MG A B A.length B.length R'):RW A (j+1) R'
theorem RW.one_le {A:List Int}:∀{j:Nat} {R:List Int},RW A j R→1≤j:=by
 intro j R h;cases h<;>omega
theorem RW.row {n:Nat} {kc:Nat→Int} {sc:Nat→Nat} {C:Int} (hk:keN n kc C) (hC:0≤C) {A:List Int} (hA:A.length=n) (hA2:∀i,i<n→A.getD i 0=kc i):∀{j N:Nat} {K:Nat→Int} {S:Nat→List Int},RowP n kc sc j N K S →
  ∀R,RW A j R→R.length=N∧∀t,t<N→R.getD t 0=K t:=by
 intro j N K S h;induction h with
 |one h=>
  intro R hR;cases hR with
  |one=>exact⟨hA,fun t ht=>by rw[hA2 t ht,(h t ht).1]⟩
  |next h' _ _ _=>have:=h'.one_le;omega
 | @next j N N' K k0 K' S S0 S' q h hN hc hp h1 h2 h3 h4 hs ih=>
  intro R' hR;obtain⟨hj,hb⟩:=h.basic hk hC;have hQ:=RowQ.of hk hb hN (fun m hm=>(hc m hm).1) (fun e he=>(hp e he).1) h1 h2 h3 h4;cases hR with
  |one=>omega
  |@next _ R B _ h' hB hpr hm=>
   obtain⟨r1,r2⟩:=ih R h';obtain⟨_,m2⟩:=MG.row hQ hA (by rw[hB,r1]) (fun i hi=>by rw[hA2 i hi,(hc i hi).1]) (fun e he=>by rw[hpr e (by rw[r1];exact he),r2 (2*e) (by omega),r2 (2*e+1) (by omega),(hp e he).1]) hm;obtain⟨_,_,l3,_⟩:=hm.len;refine⟨by rw[l3,hA,hB,r1,hN],fun t ht=>?_⟩
   rw[m2 t (by rw[hA,hB,r1];omega),(hs t ht).1]
def frq (t:List Int):Nat→List Int
  |0=>List.replicate 12 0
  |i+1=>(frq t i).set (t.getD i 0).toNat ((frq t i).getD (t.getD i 0).toNat 0+1)
def adX (f:List Int):Nat→List Int
  |0=>f
  |i+1=>if i<2 then(adX f i).set i ((adX f i).getD i 0+1) else adX f i
theorem klw (t:List Int):∀i,(frq t i).length=12
  |0=>List.length_replicate
  |i+1=>by rw[frq,List.length_set,klw t i]
theorem kef (t:List Int):∀i j,0≤(frq t i).getD j 0∧(frq t i).getD j 0≤i
  | 0,j=>by
    rw[frq,List.getD_eq_getElem?_getD,List.getElem?_replicate];split<;>simp
  | i+1,j=>by
    rw[frq];have h1:=kef t i j;have h2:=kef t i (t.getD i 0).toNat;rcases kb2 (frq t i) (t.getD i 0).toNat j ((frq t i).getD (t.getD i 0).toNat 0+1) with⟨h,_⟩|h<;>rw[h]<;>omega
theorem khN (f:List Int):∀i,(adX f i).length=f.length
  |0=>rfl
  | i+1=>by
    rw[adX];split
    · rw[List.length_set,khN f i]
    · exact khN f i
theorem keg {f:List Int} {m:Int} (h:∀j,0≤f.getD j 0∧f.getD j 0≤m):∀i j,0≤(adX f i).getD j 0∧(adX f i).getD j 0≤m+i
  |0,j=>by have:=h j;rw[adX];omega
  | i + 1,j=>by
    have h1:=keg h i j;rw[adX];split
    · have h2:=keg h i i
      rcases kb2 (adX f i) i j ((adX f i).getD i 0+1) with⟨h,_⟩|h<;>rw[h]<;>omega
    · omega
def koS (told:List Int):Prop:=
  ¬khx (adX (frq told told.length) 12) 6∨∃cs,Fair (adX (frq told told.length) 12) cs 6∧keK (qD cs 64) (kbB cs 6 64 64) (kbq cs 6 64 64) 64 told (pack (qp cs 6))
theorem kjE (told cs:List Int) (capT capC:Nat) (ht:∀c∈told,kv c) (htl:told.length≤256) (hcs:∀c∈cs,jF c) (hR:j6 cs 6) :
    Con Try.prog 79 [.slice 0 .z 1 told.length capT,.slice 1 .z 1 cs.length capC,.int .i64 6] [.ro .u8 told,.ro .i16 cs] (fun v H R=>R=[] ∧
      ((v=.val (.slice none 0 0)∧H=[.ro .u8 told,.ro .i16 cs]∧keK (qD cs 64) (kbB cs 6 64 64) (kbq cs 6 64 64) 64 told (pack (qp cs 6))) ∨
       ∃(b:List Int) (c':Nat),b.length+1≤c'∧v=.slice 2 .z 1 (b.length+1) c'∧H=[.ro .u8 told,.ro .i16 cs,.buf 5 .u8 ((b.length:Int)::b) c']∧bst 256 b=some told∧b.length≤127∧∀x∈b,isByte x)):=by
  have hs64:(2:Int)^(6:Int).toNat=64:=by decide
  have hT:=ki5 cs 6 capC hcs (by decide) hR;rw[hs64] at hT;have hW:=kom cs 6 capC hcs (by decide) hR;refine khG told cs capT capC 64 _ _ _ ht htl hR.2.2.2.1 (by decide) (by decide) (fun k hk=>?_) (kdi hR) (kmB cs 6) hT hW
  obtain⟨b,b1,b2,b3,b4,b5⟩:=kld hR hs64 (N:=64) rfl hk;have:(0:Int)<2^b:=Int.pow_pos (by omega);omega
theorem kqX (told:List Int) (i:Nat):(frq told i).set (told.getD i 0).toNat ((frq told i).getD (told.getD i 0).toNat 0+1)=frq told (i+1):=rfl
theorem kco {x:Int} (h0:0≤x) (h1:x<4294967296):IntKind.u32.wrap x=x:=by
  simp[IntKind.wrap,IntKind.bits,IntKind.signed];omega
theorem koT {q:List Int} {m:Nat} (h:∀j:Nat,0≤q.getD j 0∧q.getD j 0≤m) (hm:m≤1000000):∀x∈q,kjw x:=by
  intro x hx;obtain⟨j,hj,rfl⟩:=List.getElem_of_mem hx;have:=h j;rw[List.getD_eq_getElem?_getD,List.getElem?_eq_getElem hj,Option.getD_some] at this;unfold kjw;omega
theorem khO (told:List Int) (cap:Nat) (ht:∀c∈told,kv c) (ht11:∀i,i<told.length→told.getD i 0≤11) (htl:told.length≤256) :
    Con Try.prog 46 [.slice 0 .z 1 told.length cap] [.ro .u8 told] (fun v H R=>R=[] ∧
      ((v=.val (.slice none 0 0)∧H=[.ro .u8 told]∧koS told) ∨
       ∃(b:List Int) (c':Nat),b.length+1≤c'∧v=.slice 1 .z 1 (b.length+1) c'∧H=[.ro .u8 told,.buf 5 .u8 ((b.length:Int)::b) c']∧bst 256 b=some told∧b.length≤127∧∀x∈b,isByte x)):=by
  have hcnt:=fun(q:List Int) (c:Nat) (h:∀x∈q,kjw x) (h2:q.length≤9223372036854775807)=>kkG q 6 c h (by decide) h2
  have hby:=fun(cs:List Int) (c1 c2:Nat) (h1:∀c∈cs,jF c) (h2:j6 cs 6)=>kjE told cs c1 c2 ht htl h1 h2
  have hfi:∀q cs,Fair q cs 6→j6 cs 6∧∀c∈cs,jF c:=fun q cs h=>⟨h.1,h.2.2.1⟩
  have hNil1:¬khx (adX (frq told told.length) 12) 6→koS told:=.inl;have hNil2:∀cs,Fair (adX (frq told told.length) 12) cs 6→keK (qD cs 64) (kbB cs 6 64 64) (kbq cs 6 64 64) 64 told (pack (qp cs 6))→koS told:=fun cs h1 h2=>.inr ⟨cs,h1,h2⟩
  have hbt:=fun i=>jm ht i
  have hf0:frq told 0=List.replicate 12 0:=rfl;have hfs:=kqX told;have hfl:=klw told;have hfr:=kef told;refine kj (kG (km (kg kr kr3 ?_)))
  intro vb vc _ vtoN vofN vaddN _ _ _ _ vgd vst vln vrep vsub vonto _ _ _ _ _ hw qb qc _ qtoN qofN qaddN _ _ _ _ qgd qst qln qrep qsub qonto _ _ _ _ _;have hm:=kr;generalize Try.prog=P at *;generalize hn:told.length=n at *;have hto:∀i:Nat,vtoN (i:Int)=i:=fun i=>by simp only[qtoN,Int.toNat_natCast]
  have hadd0:∀i,vaddN 0 i=i:=fun i=>by simp only[qaddN,Nat.zero_add]
  have hgd:∀l i,vgd l i=l.getD i 0:=fun l i=>by simp only[qgd]
  obtain⟨nI,hnI⟩:∃nI:Int,nI=n:=⟨_,rfl⟩;have en:vofN n=nI:=by rw[qofN,hnI]
  have hrep:vrep 12 0=frq told 0:=by rw[qrep,hf0]
  obtain⟨f0,hf0'⟩:∃f,f=frq told 0:=⟨_,rfl⟩;rw[←hf0'] at hrep;have hgt:∀i,i<n→0≤told.getD i 0∧told.getD i 0≤11:=fun i h=>⟨(hbt i).1,ht11 i h⟩
  generalize frq told=F at *;cbv;have t12:vtoN 12=12:=hto 12;rw[t12,hrep,en];(repeat refine And.intro ⟨by decide⟩ ?_);refine kl (α:=Int×List Int) ([5]++(List.range' 18 10)) [1] (fun(k,q)=>[(17,.int .i64 k)]) (fun(k,q)=>[(1,.ints 128 .u32 q)])
    (fun(k,q)=>∃i:Nat,k=i∧i≤n∧q=F i) (fun(k,_)=>n-k.toNat) hw hm ?_ ?_
  · refine Cv.genAt [17] [] (Cv.fold ([5]++(List.range' 18 10)) 2 [1] (by exact Nat.le_refl _) (by exact Nat.le_of_ble_eq_true rfl) (by rfl) (by cbv) ?_)
    intro js;exact⟨(_,_),⟨0,rfl,Nat.zero_le _,hf0'⟩,js,rfl⟩
  · rintro ⟨k, q⟩ js ⟨i,hk,hi,hq⟩
    generalize hz:vc .lss k nI=z;cases z
    rotate_left
    · rw[qc,kf] at hz
      have hlt:i<n:=by((try simp only[nc] at *);omega)
      have hti:vtoN k=i:=by rw[hk];exact hto i
      have hinR:0≤k∧k<(n:Int):=by((try simp only[nc] at *);omega)
      obtain⟨k1,hk1⟩:∃k1:Int,k1=((i+1:Nat):Int):=⟨_,rfl⟩;have ek:vb .add .i64 k 1=k1:=by(try simp only[nc] at *);rw[qb,kh (by omega) (by omega)];omega
      have hmu:∀_:Unit,n-k1.toNat<n-k.toNat:=fun _=>by((try simp only[nc] at *);omega)
      obtain⟨x,hx⟩:∃x,x=told.getD i 0:=⟨_,rfl⟩;have hx11:=hgt i hlt;rw[←hx] at hx11;obtain⟨xn,hxn⟩:∃xn:Nat,xn=x.toNat:=⟨_,rfl⟩;have htx:vtoN x=xn:=by rw[qtoN,hxn]
      have hxl:xn<12:=by((try simp only[nc] at *);omega)
      have hxI:0≤x∧x<12:=by((try simp only[nc] at *);omega)
      have hgx:vgd told i=x:=by rw[hx];exact hgd told i
      have hfr1:=hfr i xn;have hql:=hfl i;rw[←hq] at hfr1 hql;obtain⟨y,hy⟩:∃y,y=q.getD xn 0:=⟨_,rfl⟩;have hgy:vgd q xn=y:=by rw[hy];exact hgd q xn
      rw[←hy] at hfr1;have ey:vb .add .u32 y 1=y+1:=by rw[qb];exact kco (by((try simp only[nc] at *);omega)) (by((try simp only[nc] at *);omega))
      have hst:vst q xn (y+1)=F (i+1):=by rw[qst,←hfs i,←hq,←hx,←hxn,hy]
      have hlq:vln q=12:=by rw[qln];exact hql
      have hlt2:vln told=n:=by rw[qln];exact hn
      clear hcnt hby hfi hNil1 hNil2 hfs;generalize hz2:y+1=y1 at *;cbv;rw[show vc .lss k nI=true by rw[qc,kf];exact hz];cbv;rw[hti,hgx,htx,hgy,ey,hst,ek];refine⟨⟨hinR⟩,⟨by rw[hadd0,hlt2];exact hlt⟩,⟨by rw[hlt2];exact hlt⟩,⟨hxI⟩,⟨by rw[hlq];exact hxl⟩,⟨hxI⟩,⟨by rw[hlq];exact hxl⟩,?_⟩
      refine Cv.fold ([5]++(List.range' 18 10)) 2 [1] (by exact Nat.le_refl _) (by exact Nat.le_of_ble_eq_true rfl) (by rfl) (by cbv) ?_
      intro js;exact⟨(_,_),⟨⟨i+1,hk1,hlt,rfl⟩,hmu ()⟩,js,rfl⟩
    · rw [qc, ke] at hz
      have hin:i=n:=by((try simp only[nc] at *);omega)
      subst hin;subst hq;have hql:=hfl i;have hqr:=hfr i;have hc0:=fun c=>hcnt (F i) c (koT hqr (by omega)) (by rw[hql];decide)
      rw[hql] at hc0;obtain⟨q,hq⟩:∃q,q=F i:=⟨_,rfl⟩;have hqr1:=keg (f:=q) (m:=i) (by rw[hq];exact hqr);have hql1:=khN q;have hc1:=fun c=>hcnt (adX q 12) c (koT (m:=i+12) (by have:=hqr1 12;exact this) (by omega)) (by rw[hql1,hq,hql];decide)
      rw[hql1] at hc1;rw[←hq] at hc0 hql hqr hNil1;have hNil2:=fun cs=>hq▸hNil2 cs
      rw[hql] at hql1 hc1;have hads:∀j,j<2→adX q (j+1)=(adX q j).set j ((adX q j).getD j 0+1):=fun j hj=>by rw[adX,if_pos hj]
      have hadn:∀j,¬j<2→adX q (j+1)=adX q j:=fun j hj=>by rw[adX,if_neg hj]
      have had0:adX q 0=q:=rfl;have hlq:vln q=12:=by rw[qln];exact hql
      have hz1:vc .lss nI nI=false:=by rw[qc,ke];exact Int.lt_irrefl nI
      have ek:k=nI:=by((try simp only[nc] at *);omega)
      rw[←hq];generalize adX q=AD at *;clear hcnt hfs hfl hfr hq hgt hz;cbv;rw[ek,hz1];cbv;refine WX.unr 3 hw hm ?_
      cbv;have e2:vofN 2=2:=by rw[qofN];rfl
      have l0:vc .lss 0 2=true:=by rw[qc];rfl
      have l1:vc .lss 1 2=true:=by rw[qc];rfl
      have l2:vc .lss 2 2=false:=by rw[qc];rfl
      have a01:vb .add .i64 0 1=1:=by rw[qb];rfl
      have a11:vb .add .i64 1 1=2:=by rw[qb];rfl
      have t0:vtoN 0=0:=hto 0;have t1:vtoN 1=1:=hto 1;have g00:vc .gtr 0 0=false:=by rw[qc];rfl
      have g10:vc .gtr 1 0=true:=by rw[qc];rfl
      have e12:vofN 12=12:=by rw[qofN];rfl
      have lx:vln [0,1]=2:=by rw[qln];rfl
      have x0:vgd [0,1] 0=0:=hgd [0,1] 0;have x1:vgd [0,1] 1=1:=hgd [0,1] 1;have ln0:vln []=0:=by rw[qln];rfl
      have ad12:vaddN 0 12=12:=hadd0 12;have hont:vonto [] 0 (vsub q 0 12)=q:=by
        have:q.take 12=q:=by rw[←hql];exact List.take_length
        rw[qonto,qsub];simp[this]
      rw[e2,l0];cbv;have n20:vc .neq 2 0=true:=by rw[qc];rfl
      have n00:vc .neq 0 0=false:=by rw[qc];rfl
      rw[x0];refine⟨⟨by decide⟩,⟨by rw[lx];decide⟩,⟨by rw[ad12,hlq];exact Nat.le_refl _⟩,⟨by rw[ln0];exact Nat.le_refl _⟩,⟨by rw[ln0];exact Nat.le_refl _⟩,⟨by rw[ad12];decide⟩,?_⟩
      intro c0 jv0 hle0;have hlz0:12≤c0:=by have:=hle0.out;simp only at this;rw[ad12] at this;exact this
      cbv;rw[hont,ad12,e12];refine kl (α:=Int) ([10]++(List.range' 40 16)) [3,1] (fun k=>[(39,.int .i64 k)]) (fun _=>[]) (fun k=>∃i:Nat,k=i∧i≤12) (fun k=>12-k.toNat) hw hm ?_ ?_
      · refine Cv.genAt [39] [] (Cv.fold ([10]++(List.range' 40 16)) 4 [3,1] (by exact Nat.le_refl _) (by exact Nat.le_of_ble_eq_true rfl) (by rfl) (by cbv) ?_)
        intro js;exact⟨_,⟨0,rfl,by decide⟩,js,rfl⟩
      · rintro k js ⟨u,hk,hu⟩
        by_cases hu12:u=12
        rotate_left
        · have hz:vc .lss k 12=true:=by rw[qc,kf];((try simp only[nc] at *);omega)
          obtain⟨k1,hk1⟩:∃k1:Int,k1=((u+1:Nat):Int):=⟨_,rfl⟩;have ek:vb .add .i64 k 1=k1:=by(try simp only[nc] at *);rw[qb,kh (by omega) (by omega)];omega
          have hmu:12-k1.toNat<12-k.toNat:=by((try simp only[nc] at *);omega)
          cbv;rw[hz];cbv;rw[g00];cbv;rw[ek];refine Cv.fold ([10]++(List.range' 40 16)) 4 [3,1] (by exact Nat.le_refl _) (by exact Nat.le_of_ble_eq_true rfl) (by rfl) (by cbv) ?_
          intro js;exact⟨_,⟨⟨u+1,hk1,by omega⟩,hmu⟩,js,rfl⟩
        have hz:vc .lss k 12=false:=by rw[qc,ke];((try simp only[nc] at *);omega)
        cbv;rw[hz];cbv;refine ka (ρ:=[(3,.z)]) (hc0 c0) ⟨by rfl,by rfl,by rfl,by cbv;(repeat' first|(refine And.intro ?_ ?_)|exact trivial|exact⟨Nat.le_refl _⟩|exact kb _|exact fun _=>rfl|(simp only[renL3];done)|(show SB.roA _ _ _=SB.roA _ _ _;rfl)|exact funext fun _=>rfl)⟩ ?_
        rintro v H R js0 ⟨rfl,⟨hna0,rfl,rfl⟩|⟨hab0,cs0,hfa0,rfl,rfl⟩⟩
        · cbv
          rw[n20];cbv;rw[l1];cbv;rw[x1];refine⟨⟨by decide⟩,⟨by rw[lx];decide⟩,⟨by rw[ad12,hlq];exact Nat.le_refl _⟩,⟨by rw[ln0];exact Nat.le_refl _⟩,⟨by rw[ln0];exact Nat.le_refl _⟩,⟨by rw[ad12];decide⟩,?_⟩
          intro c1 jv1 hle1;have hlz1:12≤c1:=by have:=hle1.out;simp only at this;rw[ad12] at this;exact this
          cbv;rw[hont,ad12,e12];refine kl (α:=Int×List Int) ([10]++(List.range' 40 16)) [4,3,1] (fun(k,a)=>[(39,.int .i64 k)]) (fun(k,a)=>[(4,.buf 128 .u32 a c1)]) (fun(k,a)=>∃i:Nat,k=i∧i≤12∧a=AD i) (fun(k,a)=>12-k.toNat) hw hm ?_ ?_
          · refine Cv.genAt [39] [] (Cv.fold ([10]++(List.range' 40 16)) 5 [4,3,1] (by exact Nat.le_refl _) (by exact Nat.le_of_ble_eq_true rfl) (by rfl) (by cbv) ?_)
            intro js;exact⟨(_,_),⟨0,rfl,by decide,had0.symm⟩,js,rfl⟩
          · rintro⟨k,a⟩ js ⟨u,hk,hu,ha⟩
            by_cases hu12:u=12
            rotate_left
            · have hz:vc .lss k 12=true:=by rw[qc,kf];((try simp only[nc] at *);omega)
              obtain⟨k1,hk1⟩:∃k1:Int,k1=((u+1:Nat):Int):=⟨_,rfl⟩;have ek:vb .add .i64 k 1=k1:=by(try simp only[nc] at *);rw[qb,kh (by omega) (by omega)];omega
              have hmu:12-k1.toNat<12-k.toNat:=by((try simp only[nc] at *);omega)
              have htk:vtoN k=u:=by rw[hk];exact hto u
              by_cases hu2:u<2
              · have hz2:vc .lss k 2=true:=by rw[qc,kf];((try simp only[nc] at *);omega)
                have hadu:=hads u hu2;rw[←ha] at hadu;have hau:=hqr1 u u;rw[←ha] at hau;have hla:vln a=12:=by rw[qln,ha];exact hql1 u
                have hkR:0≤k∧k<(12:Nat):=by((try simp only[nc] at *);omega)
                have hgau:vgd a u=a.getD u 0:=hgd a u;obtain⟨y,hy⟩:∃y,y=a.getD u 0:=⟨_,rfl⟩;rw[←hy] at hgau hadu hau;have ey:vb .add .u32 y 1=y+1:=by rw[qb];exact kco (by((try simp only[nc] at *);omega)) (by((try simp only[nc] at *);omega))
                have hst:vst a u (y+1)=AD (u+1):=by rw[qst];exact hadu.symm
                generalize hz3:y+1=y1 at *;clear hads hadn hqr1 hql1;cbv;rw[hz];cbv;rw[g10];cbv;rw[hz2];cbv;rw[htk,hgau,ey,hst,ek];refine⟨⟨hkR⟩,⟨by rw[hadd0,hla];omega⟩,⟨by rw[hla];omega⟩,⟨hkR⟩,⟨by rw[hadd0,hla];omega⟩,⟨by rw[hla];omega⟩,?_⟩
                refine Cv.fold ([10]++(List.range' 40 16)) 5 [4,3,1] (by exact Nat.le_refl _) (by exact Nat.le_of_ble_eq_true rfl) (by rfl) (by cbv) ?_
                intro js;exact⟨(_,_),⟨⟨u+1,hk1,by omega,rfl⟩,hmu⟩,js,rfl⟩
              · have hz2:vc .lss k 2=false:=by rw[qc,ke];((try simp only[nc] at *);omega)
                have hadu:=hadn u hu2;clear hads hadn hqr1 hql1;cbv;rw[hz];cbv;rw[g10];cbv;rw[hz2];cbv;rw[ek];refine Cv.fold ([10]++(List.range' 40 16)) 5 [4,3,1] (by exact Nat.le_refl _) (by exact Nat.le_of_ble_eq_true rfl) (by rfl) (by cbv) ?_
                intro js;exact⟨(_,_),⟨⟨u+1,hk1,by omega,by rw[hadu];exact ha⟩,hmu⟩,js,rfl⟩
            have hz:vc .lss k 12=false:=by rw[qc,ke];((try simp only[nc] at *);omega)
            rw[hu12] at ha;rw[←ha] at hc1 hNil1 hNil2;cbv;rw[hz];cbv;refine ka (ρ:=[(4,.z)]) (hc1 c1) ⟨by rfl,by rfl,by rfl,by cbv;(repeat' first|(refine And.intro ?_ ?_)|exact trivial|exact⟨Nat.le_refl _⟩|exact kb _|exact fun _=>rfl|(simp only[renL3];done)|(show SB.roA _ _ _=SB.roA _ _ _;rfl)|exact funext fun _=>rfl)⟩ ?_
            rintro v H R js1 ⟨rfl,⟨hna1,rfl,rfl⟩|⟨hab1,cs1,hfa1,rfl,rfl⟩⟩
            · cbv
              rw[n20];cbv;rw[l2];cbv;exact⟨[0],.val (.slice none 0 0),[.ro .u8 told],rfl,rfl,rfl,rfl,⟨rfl,trivial⟩,rfl,.inl ⟨rfl,rfl,hNil1 hna1⟩⟩
            · obtain⟨hR1,hI1⟩:=hfi _ _ hfa1
              obtain⟨cn1,hcn1⟩:∃n,n=cs1.length:=⟨_,rfl⟩;have hbx1:=hby cs1 cap cn1 hI1 hR1;rw[←hcn1] at hbx1;rw[←hcn1];cbv;rw[n00];cbv;refine ka (ρ:=[(0,.z),(5,.z)]) hbx1 ⟨by rfl,by rfl,by rfl,by cbv;(repeat' first|(refine And.intro ?_ ?_)|exact trivial|exact⟨Nat.le_refl _⟩|exact kb _|exact fun _=>rfl|(simp only[renL3];done)|(show SB.roA _ _ _=SB.roA _ _ _;rfl)|exact funext fun _=>rfl)⟩ ?_
              rintro v H R js1 ⟨rfl,⟨rfl,rfl,hbn1⟩|⟨b1,e1,hbe1,rfl,rfl,hb11,hb21,hb31⟩⟩
              · cbv
                rw[l2];cbv;exact⟨[0],.val (.slice none 0 0),[.ro .u8 told],rfl,rfl,rfl,rfl,⟨rfl,trivial⟩,rfl,.inl ⟨rfl,rfl,hNil2 cs1 hfa1 hbn1⟩⟩
              · obtain⟨BL1,hBL1⟩:∃B,B=(b1.length:Int)::b1:=⟨_,rfl⟩
                obtain⟨m1,hm1⟩:∃m,m=b1.length+1:=⟨_,rfl⟩;have hlb1:vln BL1=m1:=by rw[qln,hBL1,hm1];rfl
                have hmp1:0<m1:=by omega
                rw[←hBL1,←hm1];rw[←hm1] at hbe1;cbv;rw[l2];cbv;refine⟨⟨by rw[hlb1];exact hmp1⟩,?_⟩
                subst hm1;subst hBL1
                exact⟨[0,6],.slice 1 .z 1 (b1.length+1) e1,[.ro .u8 told,.buf 5 .u8 ((b1.length:Int)::b1) e1],rfl,rfl,rfl,rfl,⟨rfl,rfl,trivial⟩,rfl,.inr ⟨b1,e1,hbe1,rfl,rfl,hb11,hb21,hb31⟩⟩
        · obtain⟨hR0,hI0⟩:=hfi _ _ hfa0
          obtain⟨cn0,hcn0⟩:∃n,n=cs0.length:=⟨_,rfl⟩;have hbx0:=hby cs0 cap cn0 hI0 hR0;rw[←hcn0] at hbx0;rw[←hcn0];cbv;rw[n00];cbv;refine ka (ρ:=[(0,.z),(4,.z)]) hbx0 ⟨by rfl,by rfl,by rfl,by cbv;(repeat' first|(refine And.intro ?_ ?_)|exact trivial|exact⟨Nat.le_refl _⟩|exact kb _|exact fun _=>rfl|(simp only[renL3];done)|(show SB.roA _ _ _=SB.roA _ _ _;rfl)|exact funext fun _=>rfl)⟩ ?_
          rintro v H R js0 ⟨rfl,⟨rfl,rfl,hbn0⟩|⟨b0,e0,hbe0,rfl,rfl,hb10,hb20,hb30⟩⟩
          · cbv
            rw[l1];cbv;rw[x1];refine⟨⟨by decide⟩,⟨by rw[lx];decide⟩,⟨by rw[ad12,hlq];exact Nat.le_refl _⟩,⟨by rw[ln0];exact Nat.le_refl _⟩,⟨by rw[ln0];exact Nat.le_refl _⟩,⟨by rw[ad12];decide⟩,?_⟩
            intro c1 jv1 hle1;have hlz1:12≤c1:=by have:=hle1.out;simp only at this;rw[ad12] at this;exact this
            cbv;rw[hont,ad12,e12];refine kl (α:=Int×List Int) ([10]++(List.range' 40 16)) [5,3,1] (fun(k,a)=>[(39,.int .i64 k)]) (fun(k,a)=>[(5,.buf 128 .u32 a c1)]) (fun(k,a)=>∃i:Nat,k=i∧i≤12∧a=AD i) (fun(k,a)=>12-k.toNat) hw hm ?_ ?_
            · refine Cv.genAt [39] [] (Cv.fold ([10]++(List.range' 40 16)) 6 [5,3,1] (by exact Nat.le_refl _) (by exact Nat.le_of_ble_eq_true rfl) (by rfl) (by cbv) ?_)
              intro js;exact⟨(_,_),⟨0,rfl,by decide,had0.symm⟩,js,rfl⟩
            · rintro⟨k,a⟩ js ⟨u,hk,hu,ha⟩
              by_cases hu12:u=12
              rotate_left
              · have hz:vc .lss k 12=true:=by rw[qc,kf];((try simp only[nc] at *);omega)
                obtain⟨k1,hk1⟩:∃k1:Int,k1=((u+1:Nat):Int):=⟨_,rfl⟩;have ek:vb .add .i64 k 1=k1:=by(try simp only[nc] at *);rw[qb,kh (by omega) (by omega)];omega
                have hmu:12-k1.toNat<12-k.toNat:=by((try simp only[nc] at *);omega)
                have htk:vtoN k=u:=by rw[hk];exact hto u
                by_cases hu2:u<2
                · have hz2:vc .lss k 2=true:=by rw[qc,kf];((try simp only[nc] at *);omega)
                  have hadu:=hads u hu2;rw[←ha] at hadu;have hau:=hqr1 u u;rw[←ha] at hau;have hla:vln a=12:=by rw[qln,ha];exact hql1 u
                  have hkR:0≤k∧k<(12:Nat):=by((try simp only[nc] at *);omega)
                  have hgau:vgd a u=a.getD u 0:=hgd a u;obtain⟨y,hy⟩:∃y,y=a.getD u 0:=⟨_,rfl⟩;rw[←hy] at hgau hadu hau;have ey:vb .add .u32 y 1=y+1:=by rw[qb];exact kco (by((try simp only[nc] at *);omega)) (by((try simp only[nc] at *);omega))
                  have hst:vst a u (y+1)=AD (u+1):=by rw[qst];exact hadu.symm
                  generalize hz3:y+1=y1 at *;clear hads hadn hqr1 hql1;cbv;rw[hz];cbv;rw[g10];cbv;rw[hz2];cbv;rw[htk,hgau,ey,hst,ek];refine⟨⟨hkR⟩,⟨by rw[hadd0,hla];omega⟩,⟨by rw[hla];omega⟩,⟨hkR⟩,⟨by rw[hadd0,hla];omega⟩,⟨by rw[hla];omega⟩,?_⟩
                  refine Cv.fold ([10]++(List.range' 40 16)) 6 [5,3,1] (by exact Nat.le_refl _) (by exact Nat.le_of_ble_eq_true rfl) (by rfl) (by cbv) ?_
                  intro js;exact⟨(_,_),⟨⟨u+1,hk1,by omega,rfl⟩,hmu⟩,js,rfl⟩
                · have hz2:vc .lss k 2=false:=by rw[qc,ke];((try simp only[nc] at *);omega)
                  have hadu:=hadn u hu2;clear hads hadn hqr1 hql1;cbv;rw[hz];cbv;rw[g10];cbv;rw[hz2];cbv;rw[ek];refine Cv.fold ([10]++(List.range' 40 16)) 6 [5,3,1] (by exact Nat.le_refl _) (by exact Nat.le_of_ble_eq_true rfl) (by rfl) (by cbv) ?_
                  intro js;exact⟨(_,_),⟨⟨u+1,hk1,by omega,by rw[hadu];exact ha⟩,hmu⟩,js,rfl⟩
              have hz:vc .lss k 12=false:=by rw[qc,ke];((try simp only[nc] at *);omega)
              rw[hu12] at ha;rw[←ha] at hc1 hNil1 hNil2;cbv;rw[hz];cbv;refine ka (ρ:=[(5,.z)]) (hc1 c1) ⟨by rfl,by rfl,by rfl,by cbv;(repeat' first|(refine And.intro ?_ ?_)|exact trivial|exact⟨Nat.le_refl _⟩|exact kb _|exact fun _=>rfl|(simp only[renL3];done)|(show SB.roA _ _ _=SB.roA _ _ _;rfl)|exact funext fun _=>rfl)⟩ ?_
              rintro v H R js1 ⟨rfl,⟨hna1,rfl,rfl⟩|⟨hab1,cs1,hfa1,rfl,rfl⟩⟩
              · cbv
                rw[n20];cbv;rw[l2];cbv;exact⟨[0],.val (.slice none 0 0),[.ro .u8 told],rfl,rfl,rfl,rfl,⟨rfl,trivial⟩,rfl,.inl ⟨rfl,rfl,hNil1 hna1⟩⟩
              · obtain⟨hR1,hI1⟩:=hfi _ _ hfa1
                obtain⟨cn1,hcn1⟩:∃n,n=cs1.length:=⟨_,rfl⟩;have hbx1:=hby cs1 cap cn1 hI1 hR1;rw[←hcn1] at hbx1;rw[←hcn1];cbv;rw[n00];cbv;refine ka (ρ:=[(0,.z),(6,.z)]) hbx1 ⟨by rfl,by rfl,by rfl,by cbv;(repeat' first|(refine And.intro ?_ ?_)|exact trivial|exact⟨Nat.le_refl _⟩|exact kb _|exact fun _=>rfl|(simp only[renL3];done)|(show SB.roA _ _ _=SB.roA _ _ _;rfl)|exact funext fun _=>rfl)⟩ ?_
                rintro v H R js1 ⟨rfl,⟨rfl,rfl,hbn1⟩|⟨b1,e1,hbe1,rfl,rfl,hb11,hb21,hb31⟩⟩
                · cbv
                  rw[l2];cbv;exact⟨[0],.val (.slice none 0 0),[.ro .u8 told],rfl,rfl,rfl,rfl,⟨rfl,trivial⟩,rfl,.inl ⟨rfl,rfl,hNil2 cs1 hfa1 hbn1⟩⟩
                · obtain⟨BL1,hBL1⟩:∃B,B=(b1.length:Int)::b1:=⟨_,rfl⟩
                  obtain⟨m1,hm1⟩:∃m,m=b1.length+1:=⟨_,rfl⟩;have hlb1:vln BL1=m1:=by rw[qln,hBL1,hm1];rfl
                  have hmp1:0<m1:=by omega
                  rw[←hBL1,←hm1];rw[←hm1] at hbe1;cbv;rw[l2];cbv;refine⟨⟨by rw[hlb1];exact hmp1⟩,?_⟩
                  subst hm1;subst hBL1
                  exact⟨[0,7],.slice 1 .z 1 (b1.length+1) e1,[.ro .u8 told,.buf 5 .u8 ((b1.length:Int)::b1) e1],rfl,rfl,rfl,rfl,⟨rfl,rfl,trivial⟩,rfl,.inr ⟨b1,e1,hbe1,rfl,rfl,hb11,hb21,hb31⟩⟩
          · obtain⟨BL0,hBL0⟩:∃B,B=(b0.length:Int)::b0:=⟨_,rfl⟩
            obtain⟨m0,hm0⟩:∃m,m=b0.length+1:=⟨_,rfl⟩;have hlb0:vln BL0=m0:=by rw[qln,hBL0,hm0];rfl
            have hmp0:0<m0:=by omega
            rw[←hBL0,←hm0];rw[←hm0] at hbe0;cbv;rw[l1];cbv;refine⟨⟨by rw[hlb0];exact hmp0⟩,?_⟩
            rw[x1];refine⟨⟨by decide⟩,⟨by rw[lx];decide⟩,⟨by rw[ad12,hlq];exact Nat.le_refl _⟩,⟨by rw[ln0];exact Nat.le_refl _⟩,⟨by rw[ln0];exact Nat.le_refl _⟩,⟨by rw[ad12];decide⟩,?_⟩
            intro c1 jv1 hle1;have hlz1:12≤c1:=by have:=hle1.out;simp only at this;rw[ad12] at this;exact this
            cbv;rw[hont,ad12,e12];refine kl (α:=Int×List Int) ([10]++(List.range' 40 16)) [6,3,1] (fun(k,a)=>[(39,.int .i64 k)]) (fun(k,a)=>[(6,.buf 128 .u32 a c1)]) (fun(k,a)=>∃i:Nat,k=i∧i≤12∧a=AD i) (fun(k,a)=>12-k.toNat) hw hm ?_ ?_
            · refine Cv.genAt [39] [] (Cv.fold ([10]++(List.range' 40 16)) 7 [6,3,1] (by exact Nat.le_refl _) (by exact Nat.le_of_ble_eq_true rfl) (by rfl) (by cbv) ?_)
              intro js;exact⟨(_,_),⟨0,rfl,by decide,had0.symm⟩,js,rfl⟩
            · rintro⟨k,a⟩ js ⟨u,hk,hu,ha⟩
              by_cases hu12:u=12
              rotate_left
              · have hz:vc .lss k 12=true:=by rw[qc,kf];((try simp only[nc] at *);omega)
                obtain⟨k1,hk1⟩:∃k1:Int,k1=((u+1:Nat):Int):=⟨_,rfl⟩;have ek:vb .add .i64 k 1=k1:=by(try simp only[nc] at *);rw[qb,kh (by omega) (by omega)];omega
                have hmu:12-k1.toNat<12-k.toNat:=by((try simp only[nc] at *);omega)
                have htk:vtoN k=u:=by rw[hk];exact hto u
                by_cases hu2:u<2
                · have hz2:vc .lss k 2=true:=by rw[qc,kf];((try simp only[nc] at *);omega)
                  have hadu:=hads u hu2;rw[←ha] at hadu;have hau:=hqr1 u u;rw[←ha] at hau;have hla:vln a=12:=by rw[qln,ha];exact hql1 u
                  have hkR:0≤k∧k<(12:Nat):=by((try simp only[nc] at *);omega)
                  have hgau:vgd a u=a.getD u 0:=hgd a u;obtain⟨y,hy⟩:∃y,y=a.getD u 0:=⟨_,rfl⟩;rw[←hy] at hgau hadu hau;have ey:vb .add .u32 y 1=y+1:=by rw[qb];exact kco (by((try simp only[nc] at *);omega)) (by((try simp only[nc] at *);omega))
                  have hst:vst a u (y+1)=AD (u+1):=by rw[qst];exact hadu.symm
                  generalize hz3:y+1=y1 at *;clear hads hadn hqr1 hql1;cbv;rw[hz];cbv;rw[g10];cbv;rw[hz2];cbv;rw[htk,hgau,ey,hst,ek];refine⟨⟨hkR⟩,⟨by rw[hadd0,hla];omega⟩,⟨by rw[hla];omega⟩,⟨hkR⟩,⟨by rw[hadd0,hla];omega⟩,⟨by rw[hla];omega⟩,?_⟩
                  refine Cv.fold ([10]++(List.range' 40 16)) 7 [6,3,1] (by exact Nat.le_refl _) (by exact Nat.le_of_ble_eq_true rfl) (by rfl) (by cbv) ?_
                  intro js;exact⟨(_,_),⟨⟨u+1,hk1,by omega,rfl⟩,hmu⟩,js,rfl⟩
                · have hz2:vc .lss k 2=false:=by rw[qc,ke];((try simp only[nc] at *);omega)
                  have hadu:=hadn u hu2;clear hads hadn hqr1 hql1;cbv;rw[hz];cbv;rw[g10];cbv;rw[hz2];cbv;rw[ek];refine Cv.fold ([10]++(List.range' 40 16)) 7 [6,3,1] (by exact Nat.le_refl _) (by exact Nat.le_of_ble_eq_true rfl) (by rfl) (by cbv) ?_
                  intro js;exact⟨(_,_),⟨⟨u+1,hk1,by omega,by rw[hadu];exact ha⟩,hmu⟩,js,rfl⟩
              have hz:vc .lss k 12=false:=by rw[qc,ke];((try simp only[nc] at *);omega)
              rw[hu12] at ha;rw[←ha] at hc1 hNil1 hNil2;cbv;rw[hz];cbv;refine ka (ρ:=[(6,.z)]) (hc1 c1) ⟨by rfl,by rfl,by rfl,by cbv;(repeat' first|(refine And.intro ?_ ?_)|exact trivial|exact⟨Nat.le_refl _⟩|exact kb _|exact fun _=>rfl|(simp only[renL3];done)|(show SB.roA _ _ _=SB.roA _ _ _;rfl)|exact funext fun _=>rfl)⟩ ?_
              rintro v H R js1 ⟨rfl,⟨hna1,rfl,rfl⟩|⟨hab1,cs1,hfa1,rfl,rfl⟩⟩
              · cbv
                rw[n20];cbv;rw[l2];cbv;subst hm0;subst hBL0
                exact⟨[0,5],.slice 1 .z 1 (b0.length+1) e0,[.ro .u8 told,.buf 5 .u8 ((b0.length:Int)::b0) e0],rfl,rfl,rfl,rfl,⟨rfl,rfl,trivial⟩,rfl,.inr ⟨b0,e0,hbe0,rfl,rfl,hb10,hb20,hb30⟩⟩
              · obtain⟨hR1,hI1⟩:=hfi _ _ hfa1
                obtain⟨cn1,hcn1⟩:∃n,n=cs1.length:=⟨_,rfl⟩;have hbx1:=hby cs1 cap cn1 hI1 hR1;rw[←hcn1] at hbx1;rw[←hcn1];cbv;rw[n00];cbv;refine ka (ρ:=[(0,.z),(7,.z)]) hbx1 ⟨by rfl,by rfl,by rfl,by cbv;(repeat' first|(refine And.intro ?_ ?_)|exact trivial|exact⟨Nat.le_refl _⟩|exact kb _|exact fun _=>rfl|(simp only[renL3];done)|(show SB.roA _ _ _=SB.roA _ _ _;rfl)|exact funext fun _=>rfl)⟩ ?_
                rintro v H R js1 ⟨rfl,⟨rfl,rfl,hbn1⟩|⟨b1,e1,hbe1,rfl,rfl,hb11,hb21,hb31⟩⟩
                · cbv
                  rw[l2];cbv;subst hm0;subst hBL0
                  exact⟨[0,5],.slice 1 .z 1 (b0.length+1) e0,[.ro .u8 told,.buf 5 .u8 ((b0.length:Int)::b0) e0],rfl,rfl,rfl,rfl,⟨rfl,rfl,trivial⟩,rfl,.inr ⟨b0,e0,hbe0,rfl,rfl,hb10,hb20,hb30⟩⟩
                · obtain⟨BL1,hBL1⟩:∃B,B=(b1.length:Int)::b1:=⟨_,rfl⟩
                  obtain⟨m1,hm1⟩:∃m,m=b1.length+1:=⟨_,rfl⟩;have hlb1:vln BL1=m1:=by rw[qln,hBL1,hm1];rfl
                  have hmp1:0<m1:=by omega
                  rw[←hBL1,←hm1];rw[←hm1] at hbe1;cbv;refine⟨⟨by rw[hlb1];exact hmp1⟩,⟨by rw[hlb0];exact hmp0⟩,?_⟩
                  generalize hzz:vc .lss (vofN m1) (vofN m0)=zz;cases zz
                  · cbv
                    rw[l2];cbv;subst hm0;subst hBL0
                    exact⟨[0,5],.slice 1 .z 1 (b0.length+1) e0,[.ro .u8 told,.buf 5 .u8 ((b0.length:Int)::b0) e0],rfl,rfl,rfl,rfl,⟨rfl,rfl,trivial⟩,rfl,.inr ⟨b0,e0,hbe0,rfl,rfl,hb10,hb20,hb30⟩⟩
                  · cbv
                    rw[l2];cbv;subst hm1;subst hBL1
                    exact⟨[0,8],.slice 1 .z 1 (b1.length+1) e1,[.ro .u8 told,.buf 5 .u8 ((b1.length:Int)::b1) e1],rfl,rfl,rfl,rfl,⟨rfl,rfl,trivial⟩,rfl,.inr ⟨b1,e1,hbe1,rfl,rfl,hb11,hb21,hb31⟩⟩
def nb2 (l:List Int) (n k:Nat):Int:=16*l.getD (2*k) 0+(if 2*k+1<n then l.getD (2*k+1) 0 else 0)
def kgq (l:List Int) (n j:Nat):List Int:=(127+(n:Int))::(List.range j).map (nb2 l n)
theorem kjF (l:List Int) (n j:Nat):(kgq l n j).length=j+1:=by simp[kgq]
theorem knc (l:List Int) (n j:Nat):kgq l n (j+1)=kgq l n j++[nb2 l n j]:=by simp[kgq,List.range_succ]
theorem koU (l:List Int) (n j k:Nat) (h:k<j):(kgq l n j).getD (1+k) 0=nb2 l n k:=by
  rw[Nat.add_comm,List.getD_eq_getElem?_getD];simp[kgq,h]
theorem knd {l:List Int} {M n:Nat} (hl:∀c∈l,kv c) (hW:Wt l M) (hn:l.length=n+1) (hn2:n≤128):kb1 l (kgq l n ((n+1) / 2)):=by
  have h11:∀i,l.getD i 0≤11:=fun i=>by
    by_cases h:i<l.length
    · exact hW.2.2.2.1 i h
    · rw[List.getD_eq_getElem?_getD,List.getElem?_eq_none (by omega)];decide
  have h0:=kf6 hl;refine km0 hl hW (by omega) (fun c hc=>?_) (by rw[kjF,hn];omega) (by rw[hn];show(127+(n:Int))=_;omega) (fun i hi=>?_)
  · rcases List.mem_cons.1 hc with rfl|hc
    · unfold kv;omega
    · obtain⟨k,_,rfl⟩:=List.mem_map.1 hc
      have a1:=h11 (2*k);have a2:=h11 (2*k+1);have a3:=h0 (2*k);have a4:=h0 (2*k+1);unfold kv nb2;split<;>omega
  · unfold kcR
    rw[koU l n _ _ (by omega)];have a1:=h11 (2*(i / 2));have a2:=h11 (2*(i / 2)+1);have a3:=h0 (2*(i / 2));have a4:=h0 (2*(i / 2)+1);unfold nb2;split
    · rename_i he
      rw[show i=2*(i / 2) by omega];simp only[Nat.mul_div_cancel_left _ (show 0<2 by decide)];split<;>omega
    · rename_i he
      rw[if_pos (by omega)];have:l.getD i 0=l.getD (2*(i / 2)+1) 0:=by congr 1;omega
      rw[this];omega
theorem kpP {x:Int} (h:0≤x∧x≤11):bV .shl .u8 x 4=16*x:=by
  have:∀n:Fin 12,bV .shl .u8 (n.val:Int) 4=16*(n.val:Int):=by decide
  have:=this ⟨x.toNat,by omega⟩;simp only[Int.toNat_of_nonneg h.1] at this;exact this
theorem kqY {x y:Int} (h:0≤x∧x≤11) (k:0≤y∧y≤11):bV .or .u8 (16*x) y=16*x+y:=by
  have:∀n m:Fin 12,bV .or .u8 (16*(n.val:Int)) (m.val:Int)=16*(n.val:Int)+(m.val:Int):=by decide
  have:=this ⟨x.toNat,by omega⟩ ⟨y.toNat,by omega⟩;simp only[Int.toNat_of_nonneg h.1,Int.toNat_of_nonneg k.1] at this;exact this
theorem khP (l:List Int) (cap:Nat) (hl:∀c∈l,kv c) (hlen:l.length≤140737488355328) (hW:∀M,¬Wt l M) :
    Con Try.prog 17 [.slice 0 .z 1 l.length cap] [.ro .u8 l] (fun v H R=>v=.tup [.val (.slice none 0 0),.int .i64 50]∧H=[.ro .u8 l]∧R=[]):=by
  have hsz:=qy l cap 0 hl hlen (.inr ⟨hW,rfl⟩);refine kj (kA 1 (by simp) (km (kg kr krf ?_)))
  intro _ vc _ _ _ _ _ _ _ _ _ _ _ _ _ _ _ _ _ _ _ _ _ qc _ _ _ _ _ _ _ _ _ _ _ _ _ _ _ _ _ _ _;have hm:=kr;generalize Try.prog=P at *;generalize hn:l.length=n at *;have d1:vc .eql 0 0=true:=by rw[qc,kF]
  cbv;refine ka (ρ:=[(0,.z)]) hsz ⟨by rfl,by rfl,by rfl,by cbv;exact⟨⟨⟨by omega,fun i _=>by rw[Nat.zero_add]⟩⟩,trivial⟩⟩ ?_
  rintro v H R js ⟨rfl,rfl,rfl⟩;cbv;rw[d1];cbv
theorem kjG (l:List Int) (cap M:Nat) (hl:∀c∈l,kv c) (hW:Wt l M) (hcap:l.length≤cap) :
    Con Try.prog 17 [.slice 0 .z 1 l.length cap] [.ro .u8 l] (fun v H R=>R=[] ∧
      ((130≤l.length∧koS (l.take (l.length-1))∧v=.tup [.val (.slice none 0 0),.int .i64 0]∧H=[.ro .u8 l]) ∨
       ∃d c',kb1 l d∧d.length≤c'∧v=.tup [.slice 1 .z 1 d.length c',.int .i64 0]∧H=[.ro .u8 l,.buf 5 .u8 d c'])):=by
  have hsz:=qy l cap M hl (by have:=hW.2.1;omega) (.inl ⟨M,hW,rfl⟩);obtain⟨n,hn⟩:∃n,l.length=n+1:=⟨l.length-1,by have:=hW.1;omega⟩;have hn255:n≤255:=by have:=hW.2.1;omega
  have hM1:=hW.pos;have htk:(l.take n).length=n:=by rw[List.length_take];omega
  have htg:∀i,i<n→(l.take n).getD i 0=l.getD i 0:=fun i hi=>by
    rw[List.getD_eq_getElem?_getD,List.getD_eq_getElem?_getD,List.getElem?_take,if_pos hi]
  have hts:=fun c=>khO (l.take n) c (fun c hc=>hl c (List.mem_of_mem_take hc)) (fun i hi=>by
    rw[htk] at hi;rw[htg i hi];exact hW.2.2.2.1 i (by omega)) (by omega)
  have hdo:=fun h=>knd hl hW hn h
  have hds:∀b:List Int,bst 256 b=some (l.take n)→b.length≤127→(∀x∈b,isByte x)→kb1 l ((b.length:Int)::b):=fun b h1 h2 h3=>kju hl hW h3 h2 (by rw[show l.length-1=n by omega];exact h1)
  have hlr:∀i,i<n→0≤l.getD i 0∧l.getD i 0≤11:=fun i hi=>⟨kf6 hl i,hW.2.2.2.1 i (by omega)⟩
  rw[show l.length-1=n by omega];rw[htk] at hts;rw[hn] at hsz hcap ⊢
  have hos:=knc l n;have hol:=kjF l n;have hnb:∀k,nb2 l n k=16*l.getD (2*k) 0+(if 2*k+1<n then l.getD (2*k+1) 0 else 0):=fun _=>rfl
  have ho0:kgq l n 0=[127+(n:Int)]:=rfl;have hview:kdP 0 (l.take n) l:=⟨by omega,fun i hi=>by
    rw[htk] at hi;rw[Nat.zero_add];exact htg i hi⟩
  generalize l.take n=TK at *;generalize hW2:kb1 l=DO at *;generalize koS=NT at *;generalize kgq l n=OW at *;generalize nb2 l n=NB at *;obtain⟨mI,hmI⟩:∃mI:Int,mI=M:=⟨_,rfl⟩;rw[←hmI] at hsz;obtain⟨n1,hn1⟩:∃n1,n1=n+1:=⟨_,rfl⟩;rw[←hn1] at hsz hn hcap ⊢
  clear hW;refine kj (kG (km (kg kr krf ?_)))
  intro vb vc vw vtoN vofN vaddN _ _ _ _ vgd _ vln _ vsub vonto _ _ _ _ _ hw qb qc qw qtoN qofN qaddN _ _ _ _ qgd _ qln _ qsub qonto _ _ _ _ _;have hm:=kr;generalize Try.prog=P at *;have hto:∀i:Nat,vtoN (i:Int)=i:=fun i=>by simp only[qtoN,Int.toNat_natCast]
  have hadd0:∀i,vaddN 0 i=i:=fun i=>by simp only[qaddN,Nat.zero_add]
  have hgd:∀l i,vgd l i=l.getD i 0:=fun l i=>by simp only[qgd]
  have hvln:vln l=n1:=by simp only[qln,hn]
  have d1:vc .eql mI 0=false:=by rw[qc,kx];omega
  obtain⟨n1I,hn1I⟩:∃x:Int,x=n1:=⟨_,rfl⟩;obtain⟨nI,hnI⟩:∃x:Int,x=n:=⟨_,rfl⟩;have en1:vofN n1=n1I:=by rw[qofN,hn1I]
  have en:vofN n=nI:=by rw[qofN,hnI]
  have es:vb .sub .i64 n1I 1=nI:=by rw[qb,ky (by omega) (by omega)];omega
  have htn:vtoN nI=n:=by rw[hnI];exact hto n
  have hnc:0≤nI∧nI≤(cap:Int):=by omega
  have hnr:0≤nI∧nI≤255:=by omega
  have hncap:n≤cap:=by omega
  cbv;refine ka (ρ:=[(0,.z)]) hsz ⟨by rfl,by rfl,by rfl,by cbv;exact⟨⟨⟨by omega,fun i _=>by rw[Nat.zero_add]⟩⟩,trivial⟩⟩ ?_
  rintro v H R js ⟨rfl,rfl,rfl⟩;cbv;rw[d1];cbv;rw[en1,es,htn];rw[en];refine⟨⟨hnc⟩,?_⟩
  by_cases h128:n≤128
  · have hlq:vc .leq nI 128=true:=by rw[qc,kbR];((try simp only[nc] at *);omega)
    have hdo:=hdo h128;have h127:vb .add .i64 127 nI=127+nI:=by rw[qb,kh (by((try simp only[nc] at *);omega)) (by((try simp only[nc] at *);omega))]
    have hw8:vw .u8 (127+nI)=127+nI:=by rw[qw];show(127+nI) % 256=_;((try simp only[nc] at *);omega)
    obtain⟨o0,ho0'⟩:∃x,x=OW 0:=⟨_,rfl⟩;have hnI':(127:Int)+nI=127+(n:Int):=by((try simp only[nc] at *);omega)
    obtain⟨a7,ha7⟩:∃a,a=(127:Int)+nI:=⟨_,rfl⟩;rw[←hnI',←ho0',←ha7] at ho0;rw[←ha7] at h127 hw8;have hstp:∀j,2*j<n→vb .shl .u8 (l.getD (2*j) 0) 4=16*l.getD (2*j) 0∧(2*j+1<n→vb .or .u8 (16*l.getD (2*j) 0) (l.getD (2*j+1) 0)=NB j)∧(¬2*j+1<n→16*l.getD (2*j) 0=NB j):=fun j hj=>by
      refine⟨by rw[qb];exact kpP (hlr _ hj),fun h=>?_,fun h=>?_⟩
      · rw[qb,kqY (hlr _ hj) (hlr _ h),hnb,if_pos h]
      · rw[hnb,if_neg h];omega
    clear hts hds hnb hlr hview;cbv;rw[hlq];cbv;rw[en,h127,hw8,←ho0];refine WX.cv (Cv.intsB 1 1 (by rfl) (by rw[ho0];rfl) (Cv.here ?_))
    refine kl (α:=Int×Nat×List Int×Nat) ([7]++(List.range' 23 28)) [1] (fun(k,m,o,c)=>[(6,.int .i64 k),(5,.slice 1 .z 1 m c)]) (fun(k,m,o,c)=>[(1,.buf 5 .u8 o c)])
      (fun(k,m,o,c)=>∃j:Nat,k=((2*j:Nat):Int)∧j≤(n+1) / 2∧o=OW j∧m=j+1∧m≤c) (fun(k,_)=>n+2-k.toNat) hw hm ?_ ?_
    · refine Cv.genAt [6] [] (Cv.fold ([7]++(List.range' 23 28)) 2 [1] (by exact Nat.le_refl _) (by exact Nat.le_of_ble_eq_true rfl) (by rfl) (by cbv) ?_)
      intro js;exact⟨(_,_,_,_),⟨0,rfl,Nat.zero_le _,ho0',rfl,Nat.le_refl _⟩,js,rfl⟩
    · rintro⟨k,m,o,c⟩ js ⟨j,hk,hj,ho,hm1,hmc⟩
      by_cases hlt:2*j<n
      · have hz:vc .lss k nI=true:=by rw[qc,kf];((try simp only[nc] at *);omega)
        obtain⟨k1,hk1⟩:∃k1:Int,k1=((2*j+1:Nat):Int):=⟨_,rfl⟩;have ek1:vb .add .i64 k 1=k1:=by(try simp only[nc] at *);rw[qb,kh (by omega) (by omega)];omega
        obtain⟨k2,hk2⟩:∃k2:Int,k2=((2*(j+1):Nat):Int):=⟨_,rfl⟩;have ek2:vb .add .i64 k 2=k2:=by(try simp only[nc] at *);rw[qb,kh (by omega) (by omega)];omega
        have hmu:∀_:Unit,n+2-k2.toNat<n+2-k.toNat:=fun _=>by((try simp only[nc] at *);omega)
        have htk:vtoN k=2*j:=by rw[hk];exact hto _
        have htk1:vtoN k1=2*j+1:=by rw[hk1];exact hto _
        obtain⟨s1,s2,s3⟩:=hstp j hlt;obtain⟨kn,hkn⟩:∃kn,kn=2*j:=⟨_,rfl⟩;obtain⟨y,hy⟩:∃y,y=NB j:=⟨_,rfl⟩;obtain⟨x,hx⟩:∃x,x=l.getD (2*j) 0:=⟨_,rfl⟩;obtain⟨x16,hx16⟩:∃z,z=16*x:=⟨_,rfl⟩;have hgk:=hgd l (2*j);have hgk1:=hgd l (2*j+1);obtain⟨o2,ho2⟩:∃z,z=OW (j+1):=⟨_,rfl⟩;obtain⟨m2,hm2⟩:∃z,z=m+1:=⟨_,rfl⟩;have hosj:=hos j;rw[←ho2,←ho,←hy] at hosj;have holn:vln o=m:=by rw[qln,ho,hm1];exact hol j
        have hly:vln [y]=1:=by rw[qln];rfl
        have hont:vonto o m (vsub [y] 0 1)=o2:=by
          have e1:o.take m=o:=by rw[show m=o.length by rw[ho,hm1];exact(hol j).symm];exact List.take_length
          rw[hosj,qonto,qsub];simp[e1]
        have ham:vaddN m 1=m2:=by rw[qaddN,hm2]
        rw[←hx,←hy] at s2;rw[←hx,←hy] at s3;rw[←hx] at s1 hgk;rw[←hx16] at s1 s2 s3;have hkR:0≤k∧k<(n:Int):=by((try simp only[nc] at *);omega)
        have hj2:∀_:Unit,j+1≤(n+1) / 2:=fun _=>by omega
        have hm2':∀_:Unit,m2=j+1+1:=fun _=>by omega
        have hmm2:∀_:Unit,m+1=m2:=fun _=>hm2.symm
        have hlkn:2*j<n1:=by omega
        have hm300:m2≤1000:=by omega
        rw[←hkn] at htk hgk hlkn;by_cases hlt1:2*j+1<n
        · have hz1:vc .lss k1 nI=true:=by rw[qc,kf];((try simp only[nc] at *);omega)
          have s2:=s2 hlt1;have hk1R:0≤k1∧k1<(n:Int):=by((try simp only[nc] at *);omega)
          have hlkn1:2*j+1<n1:=by omega
          obtain⟨kn1,hkn1⟩:∃z,z=2*j+1:=⟨_,rfl⟩;rw[←hkn1] at htk1 hgk1 s2 hlkn1;clear hstp hos hol hdo;generalize l.getD kn1 0=x2 at *;cbv;rw[en,hz];cbv;rw[htk,hgk,s1,ek1,en,hz1];cbv;rw[ek1,htk1,hgk1,s2];refine⟨⟨hkR⟩,⟨by rw[hadd0,hvln];exact hlkn⟩,⟨by rw[hvln];exact hlkn⟩,⟨hk1R⟩,⟨by rw[hadd0,hvln];exact hlkn1⟩,⟨by rw[hvln];exact hlkn1⟩,⟨by rw[hadd0,hly];exact Nat.le_refl _⟩,⟨by rw[holn];exact Nat.le_refl _⟩,⟨Nat.le_refl _⟩,⟨by rw[ham];((try simp only[nc] at *);omega)⟩,?_⟩
          intro cx jv hle;have hle':m2≤cx:=by have:=hle.out;simp only at this;rw[ham] at this;exact this
          cbv;rw[hont,ham,ek2];refine Cv.fold ([7]++(List.range' 23 28)) 2 [1] (by exact Nat.le_refl _) (by exact Nat.le_of_ble_eq_true rfl) (by rfl) (by cbv) ?_
          intro js;exact⟨(_,_,_,_),⟨⟨j+1,hk2,hj2 (),ho2,hm2' (),hle'⟩,hmu ()⟩,js,rfl⟩
        · have hz1:vc .lss k1 nI=false:=by rw[qc,ke];((try simp only[nc] at *);omega)
          have s3:=s3 hlt1;rw[s3] at s1;clear hstp hos hol hdo;cbv;rw[en,hz];cbv;rw[htk,hgk,s1,ek1,en,hz1];cbv;refine⟨⟨hkR⟩,⟨by rw[hadd0,hvln];exact hlkn⟩,⟨by rw[hvln];exact hlkn⟩,⟨by rw[hadd0,hly];exact Nat.le_refl _⟩,⟨by rw[holn];exact Nat.le_refl _⟩,⟨Nat.le_refl _⟩,⟨by rw[ham];((try simp only[nc] at *);omega)⟩,?_⟩
          intro cx jv hle;have hle':m2≤cx:=by have:=hle.out;simp only at this;rw[ham] at this;exact this
          cbv;rw[hont,ham,ek2];refine Cv.fold ([7]++(List.range' 23 28)) 2 [1] (by exact Nat.le_refl _) (by exact Nat.le_of_ble_eq_true rfl) (by rfl) (by cbv) ?_
          intro js;exact⟨(_,_,_,_),⟨⟨j+1,hk2,hj2 (),ho2,hm2' (),hle'⟩,hmu ()⟩,js,rfl⟩
      · have hz:vc .lss k nI=false:=by rw[qc,ke];((try simp only[nc] at *);omega)
        have hjn:j=(n+1) / 2:=by omega
        rw[←hjn,←ho] at hdo;have hol2:o.length=m:=by rw[ho,hm1];exact hol j
        clear hstp hos hol;cbv;rw[en,hz];cbv;subst hol2;exact⟨[0,1],.tup [.slice 1 .z 1 o.length c,.lit .i64 0],[.ro .u8 l,.buf 5 .u8 o c],rfl,rfl,rfl,rfl,⟨rfl,rfl,trivial⟩,rfl,.inr ⟨o,c,hdo,hmc,rfl,rfl⟩⟩
  · have hlq:vc .leq nI 128=false:=by rw[qc,ka2];((try simp only[nc] at *);omega)
    have hts:=hts cap;cbv;rw[hlq];cbv;refine ka (ρ:=[(0,.z)]) hts ⟨by rfl,by rfl,by rfl,by cbv;exact⟨hview,trivial⟩⟩ ?_
    rintro v H R js ⟨rfl,⟨rfl,rfl,hno⟩|⟨b,c',hbc,rfl,rfl,h1,h2,h3⟩⟩
    · cbv
      exact⟨[0],.tup [.val (.slice none 0 0),.lit .i64 0],[.ro .u8 l],rfl,rfl,rfl,rfl,⟨rfl,trivial⟩,rfl,.inl ⟨by((try simp only[nc] at *);omega),hno,rfl,rfl⟩⟩
    · have hd:=hds b h1 h2 h3
      obtain⟨BL,hBL⟩:∃B,B=(b.length:Int)::b:=⟨_,rfl⟩;obtain⟨bm,hbm⟩:∃m,m=b.length+1:=⟨_,rfl⟩;have hBl:bm=BL.length:=by rw[hBL,hbm];rfl
      rw[←hbm] at hbc;rw[←hBL] at hd;rw[←hBL,←hbm];clear hBL hbm h1 h2 h3 hds;cbv;subst hBl;exact⟨[0,1],.tup [.slice 1 .z 1 BL.length c',.lit .i64 0],[.ro .u8 l,.buf 5 .u8 BL c'],rfl,rfl,rfl,rfl,⟨rfl,rfl,trivial⟩,rfl,.inr ⟨_,c',hd,hbc,rfl,rfl⟩⟩
theorem keO (g:Nat→Int) (c:Nat):∀n,c≤n→k9 g c=k9 (fun i=>if i<c then g i else 0) n
  | 0, h => by obtain rfl:c=0:=by omega
               rfl
  | n + 1,h=>by
    simp only[k9];by_cases hc:c=n+1
    · subst hc
      simp only[k9];rw[if_pos (by omega)];congr 1
      exact kX n (fun i hi=>by rw[if_pos (by omega)])
    · rw[if_neg (by omega),keO g c n (by omega)];omega
theorem kba:∀n,k9 (fun _=>0) n=0
  |0=>rfl
  |n+1=>by simp only[k9];rw[kba n];omega
theorem kha (f:Nat→Nat→Int) (m:Nat):∀n,k9 (fun i=>k9 (fun s=>f i s) m) n=k9 (fun s=>k9 (fun i=>f i s) n) m
  |0=>by simp only[k9];rw[kba]
  |n+1=>by simp only[k9];rw[kha f m n,←kgh]
theorem keh (x:Int) (a:Nat):∀n,k9 (fun s=>if s=a then x else 0) n=if a<n then x else 0
  |0=>by simp[k9]
  | n + 1=>by
    simp only[k9];rw[keh x a n];by_cases h:n=a
    · subst h;rw[if_neg (by omega),if_pos rfl,if_pos (by omega)];omega
    · rw[if_neg h]
      by_cases h2:a<n
      · rw[if_pos h2,if_pos (by omega)];omega
      · rw[if_neg h2,if_neg (by omega)];omega
theorem kjH {sc:Nat→Nat} {n:Nat} (hinj:∀a b,a<n→b<n→sc a=sc b→a=b) (x:Int) (s:Nat):(∀i,i<n→sc i≠s)∨(∃i,i<n∧sc i=s∧∀c,c≤n→k9 (fun j=>if sc j=s then x else 0) c=if i<c then x else 0):=by
  by_cases h:∃i,i<n∧sc i=s
  · obtain⟨i,hi,e⟩:=h
    refine .inr ⟨i,hi,e,fun c hc=>?_⟩
    rw[←keh x i c];refine kX c (fun j hj=>?_)
    by_cases hji:j=i
    · rw[if_pos (by rw[hji,e]),if_pos hji]
    · rw[if_neg (fun h=>hji (hinj j i (by omega) hi (h.trans e.symm))),if_neg hji]
  · exact .inl (fun i hi e=>h ⟨i,hi,e⟩)
theorem kei {sc:Nat→Nat} {n len:Nat} (hinj:∀a b,a<n→b<n→sc a=sc b→a=b) (hlt:∀i,i<n→sc i<len) (g:Nat→Int) (hz:∀s,s<len→(∀i,i<n→sc i≠s)→g s=0):k9 g len=k9 (fun i=>g (sc i)) n:=by
  have h1:k9 (fun i=>g (sc i)) n=k9 (fun i=>k9 (fun s=>if s=sc i then g s else 0) len) n:=kX n (fun i hi=>by
    rw[kX (g:=fun s=>if s=sc i then g (sc i) else 0) len (fun s hs=>by split<;>simp_all),keh,if_pos (hlt i hi)])
  rw[h1,kha];refine kX len (fun s hs=>?_)
  have e:k9 (fun i=>if s=sc i then g s else 0) n=k9 (fun i=>if sc i=s then g s else 0) n:=kX n (fun i hi=>by simp only[eq_comm]);rw[e];rcases kjH hinj (g s) s with h|⟨i,hi,e2,h⟩
  · rw[kX (g:=fun _=>0) n (fun i hi=>if_neg (h i hi)),kba];exact hz s hs h
  · rw[h n (Nat.le_refl _),if_pos hi]
theorem kjI {i:Nat}:∀{cs:List Nat} {f:Nat→Int},(∀c∈cs,k9 f c=if i<c then 1 else 0)→kdD f cs=(kaD i cs:Int)
  |[],_,_=>rfl
  | c::r,f,h=>by
    simp only[kdD];rw[kjI (fun a ha=>h a (by simp[ha])),h c (by simp)];unfold kaD;rw[List.countP_cons];by_cases hc:i<c
    · simp[hc];omega
    · simp[hc]
theorem kjJ {n:Nat} (g:Nat→Int):∀{cs:List Nat},(∀c∈cs,c≤n)→kdD g cs=k9 (fun i=>g i*(kaD i cs:Int)) n
  |[],_=>by simp only[kdD];rw[kX (g:=fun _=>0) n (fun i _=>by simp[kaD]),kba]
  | c::r,h=>by
    simp only[kdD];rw[kjJ g (fun a ha=>h a (by simp[ha])),keO g c n (h c (by simp)),←kgh];refine kX n (fun i _=>?_)
    unfold kaD;rw[List.countP_cons];by_cases hc:i<c
    · rw[if_pos hc,if_pos (by simpa using hc)];rw[Int.natCast_add,Int.mul_add];omega
    · rw[if_neg hc,if_neg (by simpa using hc)];simp
theorem khb (f:Nat→Nat):∀n,((ka9 f n:Nat):Int)=k9 (fun i=>(f i:Int)) n
  |0=>rfl
  |n+1=>by simp only[ka9,k9];rw[←khb f n];omega
structure krU (l:List Int) (L:Nat) (o:List Int):Prop where
  len:o.length=l.length
  le:∀s,s<l.length→0≤o.getD s 0∧o.getD s 0≤L
  zero:∀s,s<l.length→(o.getD s 0=0↔¬0<l.getD s 0)
  two:2≤k9 (fun s=>if 0<o.getD s 0 then 1 else 0) l.length
  kraft:k9 (fun s=>if 0<o.getD s 0 then((2^(L-(o.getD s 0).toNat):Nat):Int) else 0) l.length=((2^L:Nat):Int)
  sum:∃(n N:Nat) (kc:Nat→Int) (sc:Nat→Nat) (K:Nat→Int) (S:Nat→List Int),n=khL l∧keN n kc 4294967295∧(∀i,i<n→kc i=l.getD (sc i) 0∧sc i<l.length)∧(∀a b,a<n→b<n→sc a=sc b→a=b)∧(∀t,t<l.length→0<l.getD t 0→∃m,m<n∧sc m=t) ∧
    RowP n kc sc L N K S∧2*n-2≤N∧k9 (fun s=>l.getD s 0*o.getD s 0) l.length=k9 K (2*n-2)
theorem LimP.facts {l:List Int} {most:Int} {o:List Int} (h:LimP l most o) (ha:Abl l most):krU l most.toNat o:=by
  obtain⟨n,N,kc,sc,K,S,h1,h2,h3,h4,h5,h6,h7,h8,h9⟩:=h;obtain⟨a1,a2,a3,a4,a5⟩:=ha;rw[←h1] at a4 a5;obtain⟨L,hL⟩:∃L,L=most.toNat:=⟨_,rfl⟩;have hL15:1≤L∧L≤15:=by omega
  rw[←hL] at h6 a5 ⊢
  obtain⟨cs,g⟩:=h6.cuts h2 (by decide) (2*n-2) h7;have hhead:kby cs=n:=g.top a4 rfl;have hlen:=g.len
  -- each length
  have hval:∀s:Nat,s<l.length→((∀i,i<n→sc i≠s)→o.getD s 0=0)∧∀i,i<n→sc i=s→o.getD s 0=(kaD i cs:Int)∧0<kaD i cs:=by
    intro s hs;have e1:=h9 s hs;rw[g.sum (kee s)] at e1;have e2:(fun i=>kee (s:Int) ((sc i:Nat):Int))=fun i=>if sc i=s then(1:Int) else 0:=by
      funext i;unfold kee
      by_cases hh:sc i=s
      · rw[if_pos (by omega),if_pos hh]
      · rw[if_neg (by omega),if_neg hh]
    rw[e2] at e1;refine⟨fun hno=>?_,fun i hi hsi=>?_⟩
    · have e3:kdD (fun i=>if sc i=s then(1:Int) else 0) cs=0:=by
        have:∀c∈cs,k9 (fun i=>if sc i=s then(1:Int) else 0) c=0:=fun c hc=>by
          have hcn:=g.le c hc;rw[kX (g:=fun _=>0) c (fun i hi=>if_neg (hno i (by omega))),kba]
        clear e1 e2;revert this
        generalize (fun i=>if sc i=s then(1:Int) else 0)=f;clear hhead g hlen;induction cs with
        |nil=>intro _;rfl
        |cons c r ih=>intro h;simp only[kdD];rw[h c (by simp),ih (fun a ha=>h a (by simp[ha]))];rfl
      rw[e1,e3];rfl
    · rcases kjH h4 1 s with h|⟨i',hi',e3,h⟩
      · exact absurd hsi (h i hi)
      · obtain rfl:i=i':=h4 i i' hi hi' (hsi.trans e3.symm)
        rw[kjI (i:=i) (fun c hc=>h c (g.le c hc))] at e1;have hle:=khK i cs;refine⟨by rw[e1];omega,?_⟩
        cases cs with
        |nil=>simp at hlen;omega
        | cons c r=>
          simp only[kby] at hhead;unfold kaD;rw[List.countP_cons,if_pos (by simp;omega)];omega
  have hcoin:∀s,s<l.length→0<l.getD s 0→∃i,i<n∧sc i=s:=h5;have hnot:∀s,s<l.length→¬0<l.getD s 0→∀i,i<n→sc i≠s:=fun s hs hz i hi e=>by
    have:=(h3 i hi).1;rw[e] at this;have:=h2.pos i hi;omega
  have hz:∀s,s<l.length→(∀i,i<n→sc i≠s)→o.getD s 0=0:=fun s hs=>(hval s hs).1
  have hc:∀i,i<n→o.getD (sc i) 0=(kaD i cs:Int)∧0<kaD i cs:=fun i hi=>(hval (sc i) (h3 i hi).2).2 i hi rfl
  refine⟨h8,fun s hs=>?_,fun s hs=>?_,?_,?_,n,N,kc,sc,K,S,h1,h2,h3,h4,h5,h6,h7,?_⟩
  · by_cases hp:0<l.getD s 0
    · obtain⟨i,hi,e⟩:=hcoin s hs hp
      rw[←e,(hc i hi).1];have:=khK i cs;omega
    · rw[hz s hs (hnot s hs hp)];omega
  · by_cases hp:0<l.getD s 0
    · obtain⟨i,hi,e⟩:=hcoin s hs hp
      rw[←e,(hc i hi).1,e];have:=(hc i hi).2;omega
    · exact⟨fun _=>hp,fun _=>hz s hs (hnot s hs hp)⟩
  · rw[kei h4 (fun i hi=>(h3 i hi).2) (fun s=>if 0<o.getD s 0 then 1 else 0) (fun s hs hno=>by rw[hz s hs hno];rfl),
      kX (g:=fun _=>1) n (fun i hi=>by rw[(hc i hi).1,if_pos (by have:=(hc i hi).2;omega)])]
    have:∀n:Nat,k9 (fun _=>1) n=n:=fun n=>by induction n with
      |zero=>rfl
      |succ n ih=>simp only[k9];rw[ih];omega
    rw[this];omega
  · rw[kei h4 (fun i hi=>(h3 i hi).2) (fun s=>if 0<o.getD s 0 then((2^(L-(o.getD s 0).toNat):Nat):Int) else 0) (fun s hs hno=>by rw[hz s hs hno];rfl),
      kX (g:=fun i=>((2^(L-kaD i cs):Nat):Int)) n (fun i hi=>by rw[(hc i hi).1,if_pos (by have:=(hc i hi).2;omega)];rfl),←khb,g.kraft a4 hL15.1]
  · rw[kei h4 (fun i hi=>(h3 i hi).2) (fun s=>l.getD s 0*o.getD s 0) (fun s hs hno=>by rw[hz s hs hno];simp),g.val,kjJ kc g.le]
    exact kX n (fun i hi=>by rw[(hc i hi).1,←(h3 i hi).1])
end Go.Proofs.Ytlclleihoampdaa
