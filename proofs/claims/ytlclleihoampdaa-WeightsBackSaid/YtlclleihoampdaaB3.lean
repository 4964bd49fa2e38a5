import Derived.Test.YtlclleihoampdaaB2
import Derived.Test.YtlclleihoampdaaFD
set_option linter.unusedVariables false
set_option linter.unusedSimpArgs false
namespace Go.Proofs.Ytlclleihoampdaa
open Go Go.Sx Go.Proofs
def kR (c:Int):Prop:=0≤c∧c≤255
theorem qH {l:List Int} (h:∀c∈l,kR c) (i:Nat):0≤l.getD i 0∧l.getD i 0≤255:=by
 rw[List.getD_eq_getElem?_getD];cases hg:l[i]? with
 |none=>simp
 |some y=>exact h y (List.mem_of_getElem? hg)
def pw (w:Int):Int:=if w≤0 then 0 else 2^(w-1).toNat
def sm (l:List Int):Nat→Int
 |0=>0
 |n+1=>sm l n+pw (l.getD n 0)
def on (l:List Int):Nat→Int
 |0=>0
 |n+1=>on l n+(if l.getD n 0=1 then 1 else 0)
def Wt (l:List Int) (M:Nat):Prop:=2≤l.length∧l.length≤256∧l.getD (l.length-1) 0≠0∧(∀i,i<l.length→l.getD i 0≤11)∧2≤on l l.length∧sm l l.length=2^M∧M≤11
def Msz (l:List Int) (m:Int):Prop:=(∃M:Nat,Wt l M∧m=M)∨((∀M,¬Wt l M)∧m=0)
theorem Msz.ex (l:List Int):∃m,Msz l m:=by
 by_cases h:∃M,Wt l M
 ·obtain⟨M,h⟩:=h;exact⟨M,.inl ⟨M,h,rfl⟩⟩
 ·exact⟨0,.inr ⟨fun M hM=>h ⟨M,hM⟩,rfl⟩⟩
theorem kaE {w:Int} (h:w≤11):0≤pw w∧pw w≤1024:=by
 unfold pw;split
 ·omega
 ·have h1:(2:Int)^(w-1).toNat≤2^10:=qY (by omega);have h2:(0:Int)<2^(w-1).toNat:=Int.pow_pos (by omega);omega
theorem kcS {l:List Int}:∀{i:Nat},(∀j,j<i→l.getD j 0≤11)→0≤sm l i∧sm l i≤1024*i
 |0,_=>by simp[sm]
 |i+1,h=>by
  have h1:=kcS (l:=l) (i:=i) (fun j hj=>h j (by omega));have h2:=kaE (h i (by omega));simp only[sm]
  push_cast
  omega
theorem keW (l:List Int):∀i,0≤on l i∧on l i≤i
 |0=>by simp[on]
 |i+1=>by
  have h1:=keW l i;simp only[on]
  push_cast
  split<;>omega
theorem khZ {l:List Int}:∀{i:Nat},(∀j,j<i→l.getD j 0≤11)→on l i≤sm l i
 |0,_=>by simp[on,sm]
 | i+1,h=>by
  have h1:=khZ (l:=l) (i:=i) (fun j hj=>h j (by omega));have h2:=kaE (h i (by omega));simp only[on,sm];split
  ·rename_i e;rw[e,show pw 1=1 by decide];omega
  ·omega
theorem kh0:∀n:Nat,0<n→(n &&& (n-1)=0↔∃k,n=2^k):=by
 intro n;induction n using Nat.strongRecOn with
 | _ n ih=>
  intro hn;have hdiv:(n &&& (n-1))=0↔((n &&& (n-1)) / 2=0∧(n &&& (n-1)) % 2=0):=by omega
  rw[hdiv,Nat.and_div_two,show(n &&& (n-1)) % 2=(n % 2) &&& ((n-1) % 2) by rw[←Nat.and_mod_two_pow (n:=1)]];rcases(by omega:n % 2=0∨n % 2=1) with h|h
  ·have h1:(n-1) / 2=n / 2-1:=by omega
   rw[h1,h,Nat.zero_and,ih (n / 2) (by omega) (by omega)];constructor
   ·rintro⟨⟨k,hk⟩,_⟩;exact⟨k+1,by rw[Nat.pow_succ];omega⟩
   ·rintro⟨k,hk⟩;cases k with
    |zero=>omega
    |succ k=>exact⟨⟨k,by rw[Nat.pow_succ] at hk;omega⟩,rfl⟩
  ·have h1:(n-1) / 2=n / 2:=by omega
   rw[h1,Nat.and_self];constructor
   ·rintro⟨h2,_⟩;exact⟨0,by omega⟩
   ·rintro⟨k,hk⟩;cases k with
    |zero=>subst hk;exact⟨rfl,rfl⟩
    |succ k=>rw[Nat.pow_succ] at hk;omega
theorem kjE {s:Int} (h0:1≤s) (h1:s<2^64):bV .and .u64 s (s-1)=0↔∃k:Nat,s=2^k:=by
 have hb:(2:Int)^(IntKind.u64).bits=18446744073709551616:=by decide
 rw[knO rfl (by omega) (by rw[hb];omega) (by omega) (by rw[hb];omega)];have e:(s-1).toNat=s.toNat-1:=by omega
 rw[e];have key:=kh0 s.toNat (by omega);constructor
 ·intro h;obtain⟨k,hk⟩:=key.1 (by exact_mod_cast h);refine⟨k,?_⟩
  have:((s.toNat:Nat):Int)=((2^k:Nat):Int):=by rw[hk]
  rw[Int.toNat_of_nonneg (by omega)] at this;rw[this];push_cast;rfl
 ·rintro⟨k,hk⟩;have:s.toNat=2^k:=by
   have h2:((s.toNat:Nat):Int)=((2^k:Nat):Int):=by rw[Int.toNat_of_nonneg (by omega),hk];push_cast;rfl
   exact_mod_cast h2
  exact_mod_cast key.2 ⟨k,this⟩
theorem kcT (k:Nat):kB (2^k)=k+1:=kgf (Int.le_refl _) (by have:(0:Int)<2^k:=Int.pow_pos (by omega);rw[Int.pow_succ];omega)
theorem kgq {a b:Nat} (h:(2:Int)^a=2^b):a=b:=by
 have:=kcT a;rw[h,kcT] at this;omega
theorem Msz.ends {l:List Int} {m:Int} (hm:Msz l m) (h1:2≤l.length) (h2:l.length≤256) (h3:l.getD (l.length-1) 0≠0) (h4:∀i,i<l.length→l.getD i 0≤11) :
  (2≤on l l.length→(∃k:Nat,sm l l.length=2^k)→sm l l.length≤2048→m=kB (sm l l.length)-1) ∧
  ((on l l.length<2∨(¬∃k:Nat,sm l l.length=2^k)∨2048<sm l l.length)→m=0):=by
 constructor
 ·rintro k1 ⟨k,hk⟩ k3;have hk11:k≤11:=by
   apply Classical.byContradiction
   intro h;have:(2:Int)^12≤2^k:=qY (by omega);omega
  rcases hm with⟨M,hW,rfl⟩|⟨hn,rfl⟩
  ·have:=hW.2.2.2.2.2.1;rw[this,kcT];omega
  ·exact(hn k ⟨h1,h2,h3,h4,k1,hk,hk11⟩).elim
 ·intro h;rcases hm with⟨M,⟨_,_,_,_,k1,k2,k3⟩,rfl⟩|⟨hn,rfl⟩
  ·rcases h with h|h|h
   ·omega
   ·exact(h ⟨M,k2⟩).elim
   ·have:(2:Int)^M≤2^11:=qY k3;omega
  ·rfl
theorem Msz.none {l:List Int} {m:Int} (hm:Msz l m) (h:l.length<2∨256<l.length∨l.getD (l.length-1) 0=0∨∃i,i<l.length∧11<l.getD i 0):m=0:=by
 rcases hm with⟨M,⟨k1,k2,k3,k4,_⟩,rfl⟩|⟨_,rfl⟩
 ·rcases h with h|h|h|⟨i,hi,h⟩
  ·omega
  ·omega
  ·exact(k3 h).elim
  ·have:=k4 i hi;omega
 ·rfl
theorem kjF {w:Int} (h0:0≤w) (h1:w≤11):bV .shr .u64 (bV .shl .u64 1 w) 1=pw w:=by
 have hb:(2:Int)^(IntKind.u64).bits=18446744073709551616:=by decide
 have hp:(2:Int)^w.toNat≤2^11:=qY (by omega);rw[keC rfl (by omega) (by show w≤64;omega) (by rw[hb];omega),kb9 (by decide)];unfold pw;split
 ·have:w.toNat=0:=by omega
  rw[this];rfl
 ·obtain⟨k,hk⟩:∃k,w.toNat=k+1:=⟨w.toNat-1,by omega⟩;rw[hk,show(w-1).toNat=k by omega,Int.pow_succ,Int.one_mul];show 2^k*2 / 2=_
  omega
set_option maxRecDepth 10000
set_option maxHeartbeats 40000000
theorem kcU (l:List Int) (cap:Nat) (m:Int) (hl:∀c∈l,kR c) (hlen:l.length≤140737488355328) (hm0:Msz l m) :
  Con Try.prog 45 [.slice 0 .z 1 l.length cap] [.ro .u8 l] (fun v H R=>v=.int .i64 m∧H=[.ro .u8 l]∧R=[]):=by
 have hlen1:=fun x h=>kcH x h
 refine kw (kV 1 (by simp) (kH (kl kD ko9 ?_)))
 intro vb vc _ vtoN vofN vaddN _ _ _ _ vgd _ vln _ _ _ _ _ _ _ _ hw qb qc _ qtoN qofN qaddN _ _ _ _ qgd _ qln _ _ _ _ _ _ _ _;have hm:=kD;generalize Try.prog=P at *;have hends:=hm0.ends;have hnone:=hm0.none;have hge:=qH hl;have hsr:=fun i=>@kcS l i
 have hor:=keW l;have hos:=fun i=>@khZ l i
 have hs0:sm l 0=0:=rfl;have ho0:on l 0=0:=rfl;have hss:∀i,sm l (i+1)=sm l i+pw (l.getD i 0):=fun _=>rfl
 have hosu:∀i,on l (i+1)=on l i+(if l.getD i 0=1 then 1 else 0):=fun _=>rfl
 have hpr:=@kaE;have hb16:=fun x h0 h1=>@kdX x h0 h1
 have hpwd:∀w:Int,0≤w→w≤11→vb .shr .u64 (vb .shl .u64 1 w) 1=pw w:=fun w h0 h1=>by rw[qb];exact kjF h0 h1
 have hand:∀s:Int,1≤s→s<2^64→(vb .and .u64 s (s-1)=0↔∃k:Nat,s=2^k):=fun s h0 h1=>by rw[qb];exact kjE h0 h1
 clear hm0;generalize sm l=SM at *;generalize on l=ON at *;generalize pw=PW at *;generalize kB=BL at *;generalize hn:l.length=n at *;have hto:∀i:Nat,vtoN (i:Int)=i:=fun i=>by simp only[qtoN,Int.toNat_natCast]
 have hadd0:∀i,vaddN 0 i=i:=fun i=>by simp only[qaddN,Nat.zero_add]
 have hvln:vln l=n:=by simp only[qln,hn]
 have hvgd:∀i,vgd l i=l.getD i 0:=fun i=>by simp only[qgd]
 obtain⟨nI,hnI⟩:∃nI:Int,nI=n:=⟨_,rfl⟩;have en:vofN n=nI:=by rw[hnI,qofN]
 cbv;simp only[nc] at *;rw[en];generalize hz1:vc .lss nI 2=z1;cases z1
 rotate_left
 ·rw[qc,ko] at hz1;cbv;have:=hnone (.inl (by((try simp only[nc] at *);omega)));subst this;exact⟨rfl,trivial⟩
 rw[qc,kb] at hz1;cbv;rw[en];generalize hz2:vc .gtr nI 256=z2;cases z2
 rotate_left
 ·rw[qc,kC] at hz2;cbv;have:=hnone (.inr (.inl (by((try simp only[nc] at *);omega))));subst this;exact⟨rfl,trivial⟩
 rw[qc,kx] at hz2;obtain⟨nm,hnm⟩:∃nm:Int,nm=((n-1:Nat):Int):=⟨_,rfl⟩;have enm:vb .sub .i64 nI 1=nm:=by rw[qb,ku (by((try simp only[nc] at *);omega)) (by((try simp only[nc] at *);omega))];((try simp only[nc] at *);omega)
 have htm:vtoN nm=n-1:=by rw[hnm];exact hto _
 cbv;rw[en,enm,htm,hadd0,hvgd,hvln];refine⟨⟨by((try simp only[nc] at *);omega)⟩,⟨by((try simp only[nc] at *);omega)⟩,⟨by((try simp only[nc] at *);omega)⟩,?_⟩
 generalize hz3:vc .eql (l.getD (n-1) 0) 0=z3;cases z3
 rotate_left
 ·rw[qc,kJ] at hz3;cbv;have:=hnone (.inr (.inr (.inl hz3)));subst this;exact⟨rfl,trivial⟩
 rw[qc,ky] at hz3;have hends:=hends (by((try simp only[nc] at *);omega)) (by((try simp only[nc] at *);omega)) hz3;cbv;rw[en];refine kv (α:=Int×Int×Int) ([6]++[27,28,29,30,31,32,33,34,35,36,37,38,39,40,41,42,43]) [] (fun(k,s,o)=>[(26,.int .i64 k),(3,.int .u64 s),(4,.int .i64 o)]) (fun _=>[])
  (fun(k,s,o)=>∃i:Nat,k=i∧i≤n∧s=SM i∧o=ON i∧∀j,j<i→l.getD j 0≤11) (fun(k,_)=>n-k.toNat) hw hm ?_ ?_
 ·refine Cv.genAt [26,3,4] [] (Cv.fold ([6]++[27,28,29,30,31,32,33,34,35,36,37,38,39,40,41,42,43]) 1 [] (by exact Nat.le_refl _) (by exact Nat.le_of_ble_eq_true rfl) (by rfl) (by cbv) ?_)
  intro js;refine⟨(_,_,_),?_,js,rfl⟩
  exact⟨0,rfl,by((try simp only[nc] at *);omega),hs0.symm,ho0.symm,fun j hj=>by((try simp only[nc] at *);omega)⟩
 ·rintro⟨k,s,o⟩ js ⟨i,hk,hi,hs,ho,hj⟩;have hsi:=hsr i hj;have hoi:=hor i;cbv;generalize hz4:vc .lss k nI=z4;cases z4
  rotate_left
  ·rw[qc,ko] at hz4;have hlt:i<n:=by((try simp only[nc] at *);omega)
   have hti:vtoN k=i:=by rw[hk];exact hto i
   have hinR:0≤k∧k<(n:Int):=by((try simp only[nc] at *);omega)
   obtain⟨k1,hk1⟩:∃k1:Int,k1=((i+1:Nat):Int):=⟨_,rfl⟩;have ek:vb .add .i64 k 1=k1:=by rw[qb,kh (by((try simp only[nc] at *);omega)) (by((try simp only[nc] at *);omega))];((try simp only[nc] at *);omega)
   have hmu:∀_:Unit,n-k1.toNat<n-k.toNat:=fun _=>by((try simp only[nc] at *);omega)
   have hx:=hge i;have hss1:=hss i;have hos1:=hosu i;cbv;rw[hti,hadd0,hvgd,hvln];refine⟨⟨hinR⟩,⟨hlt⟩,⟨hlt⟩,?_⟩
   generalize hxi:l.getD i 0=x at *;generalize hz5:vc .gtr x 11=z5;cases z5
   rotate_left
   ·rw[qc,kC] at hz5;cbv;have:=hnone (.inr (.inr (.inr ⟨i,hlt,by((try simp only[nc] at *);omega)⟩)));subst this;exact⟨rfl,trivial⟩
   rw[qc,kx] at hz5;have hpx:=hpr (w:=x) (by((try simp only[nc] at *);omega));have hpw:=hpwd x (by((try simp only[nc] at *);omega)) (by((try simp only[nc] at *);omega));obtain⟨s1,hs1⟩:∃s1,s1=SM (i+1):=⟨_,rfl⟩;have es:vb .add .u64 s (PW x)=s1:=by
    rw[qb,hs1,hss1,←hs];exact wrap_u64 (by((try simp only[nc] at *);omega)) (by((try simp only[nc] at *);omega))
   have hjj:∀j,j<i+1→l.getD j 0≤11:=fun j hj2=>by
    by_cases e:j=i
    ·subst e;((try simp only[nc] at *);omega)
    ·exact hj j (by((try simp only[nc] at *);omega))
   cbv;generalize hz6:vc .eql x 1=z6;cases z6
   ·rw[qc,ky] at hz6;rw[if_neg hz6] at hos1;cbv;rw[hpw,es,ek];refine⟨⟨by((try simp only[nc] at *);omega)⟩,?_⟩
    refine Cv.fold ([6]++[27,28,29,30,31,32,33,34,35,36,37,38,39,40,41,42,43]) 1 [] (by exact Nat.le_refl _) (by exact Nat.le_of_ble_eq_true rfl) (by rfl) (by cbv) ?_
    intro js;refine⟨(_,_,_),?_,js,rfl⟩
    exact⟨⟨i+1,hk1,hlt,hs1,by((try simp only[nc] at *);omega),hjj⟩,hmu ()⟩
   ·rw[qc,kJ] at hz6;rw[if_pos hz6] at hos1;have eo:vb .add .i64 o 1=o+1:=by rw[qb,kh (by((try simp only[nc] at *);omega)) (by((try simp only[nc] at *);omega))]
    obtain⟨o1,ho1⟩:∃o1,o1=o+1:=⟨_,rfl⟩;rw[←ho1] at eo;cbv;rw[hpw,es,ek,eo];refine⟨⟨by((try simp only[nc] at *);omega)⟩,?_⟩
    refine Cv.fold ([6]++[27,28,29,30,31,32,33,34,35,36,37,38,39,40,41,42,43]) 1 [] (by exact Nat.le_refl _) (by exact Nat.le_of_ble_eq_true rfl) (by rfl) (by cbv) ?_
    intro js;refine⟨(_,_,_),?_,js,rfl⟩
    exact⟨⟨i+1,hk1,hlt,hs1,by((try simp only[nc] at *);omega),hjj⟩,hmu ()⟩
  ·rw[qc,kb] at hz4;obtain rfl:i=n:=by((try simp only[nc] at *);omega)
   obtain⟨he1,he2⟩:=hends (fun j h=>hj j h);rw[←hs,←ho] at he1 he2;have hos2:=hos i hj;rw[←hs,←ho] at hos2;clear hends hnone;cbv;generalize hz5:vc .lss o 2=z5;cases z5
   rotate_left
   ·rw[qc,ko] at hz5;cbv;have:=he2 (.inl hz5);subst this;exact⟨rfl,trivial⟩
   rw[qc,kb] at hz5;have hs1:1≤s:=by((try simp only[nc] at *);omega)
   have hs2:s<2^64:=by((try simp only[nc] at *);omega)
   have hands:=hand s hs1 hs2;obtain⟨sm1,hsm⟩:∃sm1,sm1=s-1:=⟨_,rfl⟩;have esm:vb .sub .u64 s 1=sm1:=by rw[qb,hsm];exact wrap_u64 (by((try simp only[nc] at *);omega)) (by((try simp only[nc] at *);omega))
   rw[←hsm] at hands;obtain⟨an,han⟩:∃an,an=vb .and .u64 s sm1:=⟨_,rfl⟩;rw[←han] at hands;cbv;rw[esm,←han];generalize hz6:vc .neq an 0=z6;cases z6
   rotate_left
   ·rw[qc,kaw] at hz6;cbv;have:=he2 (.inr (.inl (fun h=>hz6 (hands.2 h))));subst this;exact⟨rfl,trivial⟩
   rw[qc,kax] at hz6;have hex:=hands.1 (Classical.not_not.1 hz6);cbv;generalize hz7:vc .gtr s 2048=z7;cases z7
   rotate_left
   ·rw[qc,kC] at hz7;cbv;have:=he2 (.inr (.inr hz7));subst this;exact⟨rfl,trivial⟩
   rw[qc,kx] at hz7;have hmv:=he1 (by((try simp only[nc] at *);omega)) hex (by((try simp only[nc] at *);omega));have hlc:=hlen1 s ⟨by((try simp only[nc] at *);omega),by((try simp only[nc] at *);omega)⟩;obtain⟨bl,hbl⟩:∃bl,bl=BL s:=⟨_,rfl⟩;rw[←hbl] at hmv hlc;cbv;refine ka (ρ:=[]) hlc ⟨by rfl,by rfl,by rfl,by cbv⟩ ?_
   rintro v H R js2 ⟨rfl,rfl,rfl⟩;have em:vb .sub .i64 bl 1=m:=by
    have:=hb16 s (by((try simp only[nc] at *);omega)) (by((try simp only[nc] at *);omega));rw[qb,hmv,ku (by((try simp only[nc] at *);omega)) (by((try simp only[nc] at *);omega))]
   cbv;rw[em];exact⟨rfl,trivial⟩
theorem kck {l:List Int} (h:∀c∈l,kR c) (i:Nat):0≤l.getD i 0:=(qH h i).1
theorem p2 (n:Nat):(0:Int)<2^n:=Int.pow_pos (by omega)
theorem knT {w:Int} {L:Nat} (h:w=L) (hL:1≤L):pw w=2^(L-1):=by
  unfold pw;rw[if_neg (by omega)];congr 1
  omega
def low (l:List Int) (L:Nat):Nat→Int
  |0=>0
  |k+1=>low l L k+(if l.getD k 0<L then pw (l.getD k 0) else 0)
def kdo (l:List Int) (L:Nat):Nat→Int
  |0=>0
  |i+1=>kdo l L i+(if l.getD i 0=L then 2^(L-1) else 0)
def gs (l:List Int) (L i:Nat):Int:=low l L l.length+kdo l L i
theorem knU (w:Int):0≤pw w:=by
  unfold pw;split
  · omega
  · exact Int.le_of_lt (p2 _)
theorem kjG (l:List Int) (h:∀c∈l,kR c):∀k,low l 1 k=0
  |0=>rfl
  | k + 1=>by
    have h0:=kck h k;simp only[low,kjG l h k];split
    · rename_i e
      have:l.getD k 0=0:=by omega
      rw[this];rfl
    · rfl
theorem kmr (l:List Int) (h:∀c∈l,kR c):gs l 1 0=0:=by unfold gs;rw[kjG l h];rfl
theorem kbP (l:List Int) (L i:Nat):gs l L (i+1)=gs l L i+(if l.getD i 0=L then 2^(L-1) else 0):=by
  unfold gs;simp only[kdo];omega
theorem kh1 (l:List Int) {L:Nat} (hL:1≤L):∀k,low l (L+1) k=low l L k+kdo l L k
  |0=>rfl
  | k + 1=>by
    simp only[low,kdo,kh1 l hL k];by_cases h:l.getD k 0=L
    · rw[if_pos (by push_cast;omega),if_neg (by omega),if_pos h,knT h hL]
      omega
    · rw[if_neg h]
      by_cases h2:l.getD k 0<L
      · rw[if_pos (by push_cast;omega),if_pos h2];omega
      · rw[if_neg (by push_cast;omega),if_neg h2];omega
theorem kdZ (l:List Int) {L:Nat} (hL:1≤L):gs l (L+1) 0=gs l L l.length:=by
  unfold gs;rw[kh1 l hL];simp[kdo]
theorem kjH (l:List Int) {L:Nat}:∀k,(∀j,j<k→l.getD j 0<L)→low l L k=sm l k
  |0,_=>rfl
  | k+1,h=>by
    simp only[low,sm,kjH l k (fun j hj=>h j (by omega)),if_pos (h k (by omega))]
theorem kjI (l:List Int) (L:Nat):∀i,0≤kdo l L i
  |0=>by simp[kdo]
  | i+1=>by
    have:=kjI l L i;have:=p2 (L-1);simp only[kdo];split<;>omega
theorem kms (l:List Int) (L:Nat):∀i,0≤low l L i
  |0=>by simp[low]
  | i+1=>by
    have:=kms l L i;have:=knU (l.getD i 0);simp only[low];split<;>omega
theorem kaZ (l:List Int) (L:Nat) {i:Nat}:∀{j:Nat},i≤j→gs l L i≤gs l L j
  | 0, h => by obtain rfl:i=0:=by omega
               exact Int.le_refl _
  | j + 1,h=>by
    by_cases e:i=j+1
    · subst e;exact Int.le_refl _
    · have h1:=kaZ l L (i:=i) (j:=j) (by omega)
      have h2:=p2 (L-1);rw[kbP];split<;>omega
theorem kmt (l:List Int) {L:Nat} (hL:1≤L):∀{K:Nat},L<K→gs l L l.length≤gs l K 0
  |0,h=>by omega
  | K + 1,h=>by
    by_cases e:L=K
    · subst e;rw[kdZ l hL];exact Int.le_refl _
    · have h1:=kmt l hL (K:=K) (by omega)
      have h2:=kaZ l K (i:=0) (j:=l.length) (by omega);rw[kdZ l (by omega)];omega
theorem kjJ {l:List Int} {i:Nat} (hi2:2≤l.getD i 0):∀{n:Nat},i<n→(∀j,j<n→l.getD j 0≤11)→on l n+pw (l.getD i 0)≤sm l n
  |0,h,_=>by omega
  | n + 1,h,h11=>by
    have hpn:=knU (l.getD n 0);simp only[on,sm];by_cases e:i=n
    · subst e
      have:=khZ (l:=l) (i:=i) (fun j hj=>h11 j (by omega));rw[if_neg (by omega)];omega
    · have:=kjJ hi2 (n:=n) (by omega) (fun j hj=>h11 j (by omega))
      split
      · rename_i e1
        rw[e1,show pw 1=1 by decide];omega
      · omega
theorem Wt.le {l:List Int} {M:Nat} (h:Wt l M) (i:Nat) (hi:i<l.length):l.getD i 0≤M:=by
  obtain⟨h1,h2,h3,h4,h5,h6,h7⟩:=h;have ho:=khZ (l:=l) (i:=l.length) h4;apply Classical.byContradiction
  intro hc;by_cases e:2≤l.getD i 0
  · have hp:=kjJ e hi h4
    have h8:(2:Int)^M≤pw (l.getD i 0):=by
      unfold pw;rw[if_neg (by omega)];exact qY (by omega)
    omega
  · have hM:M=0:=by omega
    subst hM;omega
theorem Wt.pos {l:List Int} {M:Nat} (h:Wt l M):1≤M:=by
  obtain⟨h1,h2,h3,h4,h5,h6,h7⟩:=h;have ho:=khZ (l:=l) (i:=l.length) h4;cases M with
  |zero=>omega
  |succ M=>omega
theorem kgr {l:List Int} {M:Nat} (h:Wt l M):gs l (M+1) 0=2^M:=by
  unfold gs;rw[kjH l l.length (fun j hj=>by have:=h.le j hj;push_cast;omega),h.2.2.2.2.2.1];simp[kdo]
theorem kjK {l:List Int} {M:Nat} (h:Wt l M):∀i,i≤l.length→gs l (M+1) i=2^M
  |0,_=>kgr h
  | i+1,hi=>by
    have:=h.le i (by omega);rw[kbP,kjK h i (by omega),if_neg (by push_cast;omega)];omega
theorem keX {l:List Int} {M:Nat} (h:Wt l M) {L i:Nat} (hL1:1≤L) (hL:L≤M+1) (hi:i≤l.length):0≤gs l L i∧gs l L i≤2^M:=by
  constructor
  · have:=kms l L l.length
    have:=kjI l L i;unfold gs;omega
  · have h1:=kaZ l L hi
    have h2:=kgr h;by_cases e:L=M+1
    · subst e;rw[kjK h i hi];exact Int.le_refl _
    · have h3:=kmt l hL1 (K:=M+1) (by omega)
      omega
theorem kh2 (l:List Int) {L:Nat} (hL:1≤L):∀k,∃q:Int,sm l k-low l L k=q*2^(L-1)
  |0=>⟨0,by simp[sm,low]⟩
  | k + 1=>by
    obtain⟨q,hq⟩:=kh2 l hL k;simp only[sm,low];by_cases h:l.getD k 0<L
    · exact⟨q,by rw[if_pos h];omega⟩
    · rw[if_neg h]
      refine⟨q+2^((l.getD k 0).toNat-L),?_⟩
      rw[Int.add_mul,←hq,←Int.pow_add];unfold pw;rw[if_neg (by omega),show(l.getD k 0).toNat-L+(L-1)=(l.getD k 0-1).toNat by omega];omega
theorem kh3 (l:List Int) (L:Nat):∀i,∃q:Int,kdo l L i=q*2^(L-1)
  |0=>⟨0,by simp[kdo]⟩
  | i+1=>by
    obtain⟨q,hq⟩:=kh3 l L i;simp only[kdo];split
    · exact⟨q+1,by rw[hq,Int.add_mul];omega⟩
    · exact⟨q,by omega⟩
theorem kmu {l:List Int} {M:Nat} (h:Wt l M) {L:Nat} (hL1:1≤L) (hL:L≤M+1) (i:Nat):gs l L i=gs l L i / 2^(L-1)*2^(L-1):=by
  obtain⟨q,hq⟩:=kh2 l hL1 l.length;obtain⟨r,hr⟩:=kh3 l L i;have e:gs l L i=(2^(M-(L-1))-q+r)*2^(L-1):=by
    unfold gs;rw[hr,Int.add_mul,Int.sub_mul,←hq,←Int.pow_add,show M-(L-1)+(L-1)=M by omega,h.2.2.2.2.2.1];omega
  rw[e,Int.mul_ediv_cancel _ (by have:=p2 (L-1);omega)]
def wn (l:List Int) (c:Nat):Nat:=(l.getD c 0).toNat
def Dc (l:List Int) (t:Int) (c:Nat):Prop:=c<l.length∧1≤wn l c∧gs l (wn l c) c≤t∧t<gs l (wn l c) c+2^(wn l c-1)
theorem koe {l:List Int} (h:∀c∈l,kR c) (c:Nat) (h1:1≤wn l c):gs l (wn l c) (c+1)=gs l (wn l c) c+2^(wn l c-1):=by
  have h0:=kck h c;rw[kbP,if_pos (by unfold wn at *;omega)]
theorem Dc.uniq {l:List Int} (h:∀c∈l,kR c) {t:Int} {c d:Nat} (hc:Dc l t c) (hd:Dc l t d):c=d:=by
  have key:∀c d,Dc l t c→Dc l t d→(wn l c<wn l d∨wn l c=wn l d∧c<d)→False:=by
    rintro c d ⟨a1,a2,a3,a4⟩ ⟨b1,b2,b3,b4⟩ h3;rw[←koe h c a2] at a4;rcases h3 with h3|⟨h3,h4⟩
    · have k1:=kaZ l (wn l c) (i:=c+1) (j:=l.length) (by omega)
      have k2:=kmt l a2 (K:=wn l d) h3;have k3:=kaZ l (wn l d) (i:=0) (j:=d) (by omega);omega
    · have k1:=kaZ l (wn l c) (i:=c+1) (j:=d) (by omega)
      rw[h3] at k1 a4;omega
  apply Classical.byContradiction
  intro hne;rcases(by omega:(wn l c<wn l d∨wn l c=wn l d∧c<d)∨(wn l d<wn l c∨wn l d=wn l c∧d<c)) with h1|h1
  · exact key c d hc hd h1
  · exact key d c hd hc h1
theorem cover {l:List Int} (h:∀c∈l,kR c):∀(L i:Nat) (t:Int),1≤L→i≤l.length→0≤t→t<gs l L i→∃c,Dc l t c
  | L,0,t,hL,hi,h0,ht=>by
    by_cases e:L=1
    · subst e;rw[kmr l h] at ht;omega
    · obtain⟨K,hK,rfl⟩:∃K,1≤K∧L=K+1:=⟨L-1,by omega,by omega⟩
      rw[kdZ l hK] at ht;exact cover h K l.length t hK (by omega) h0 ht
  | L,i+1,t,hL,hi,h0,ht=>by
    by_cases h1:t<gs l L i
    · exact cover h L i t hL (by omega) h0 h1
    · rw[kbP] at ht
      split at ht
      · rename_i e
        have hw:wn l i=L:=by unfold wn;omega
        exact⟨i,by omega,by omega,by rw[hw];omega,by rw[hw];omega⟩
      · omega
  termination_by L i=>(L,i)
theorem Dc.ex {l:List Int} {M:Nat} (h:∀c∈l,kR c) (hW:Wt l M) {t:Int} (h0:0≤t) (ht:t<2^M):∃c,Dc l t c:=
  cover h (M+1) 0 t (by omega) (by omega) h0 (by rw[kgr hW];exact ht)
theorem kh4 {l:List Int} {M:Nat} (hW:Wt l M) {c:Nat} (hc:c<l.length):wn l c≤M:=by have:=hW.le c hc;unfold wn;omega
def wx (l:List Int) (c:Nat):Int:=gs l (wn l c) c / 2^(wn l c-1)
theorem kof {l:List Int} {M:Nat} (hW:Wt l M) {c:Nat} (hc:c<l.length) (h1:1≤wn l c):gs l (wn l c) c=wx l c*2^(wn l c-1):=
  kmu hW h1 (by have:=kh4 hW hc;omega) c
def Pr (l:List Int) (L i c:Nat):Prop:=c<l.length∧1≤wn l c∧(wn l c<L∨wn l c=L∧c<i)
open Classical in
noncomputable def wA (l:List Int) (L i c:Nat):Int:=if Pr l L i c then wx l c else 0
open Classical in
noncomputable def wB (l:List Int) (M L i c:Nat):Int:=if Pr l L i c then(M:Int)+1-wn l c else 0
theorem kjL {l:List Int} {c:Nat}:¬Pr l 1 0 c:=by rintro⟨_,h1,h2⟩;omega
theorem knn (l:List Int):wA l 1 0=fun _=>0:=by funext c;unfold wA;rw[if_neg kjL]
theorem kno (l:List Int) (M:Nat):wB l M 1 0=fun _=>0:=by funext c;unfold wB;rw[if_neg kjL]
theorem kjM {l:List Int} {L i c:Nat} (h:∀c∈l,kR c) (hi:l.getD i 0≠L):Pr l L (i+1) c↔Pr l L i c:=by
 have h0:=kck h c;unfold Pr;constructor
 ·rintro⟨h1,h2,h3⟩;refine⟨h1,h2,?_⟩
  rcases h3 with h3|⟨h3,h4⟩
  ·exact .inl h3
  ·by_cases e:c=i
   ·subst e;unfold wn at h3;omega
   ·exact .inr ⟨h3,by omega⟩
 ·rintro⟨h1,h2,h3⟩;exact⟨h1,h2,by omega⟩
theorem kgs {l:List Int} {L i c:Nat} (hn:i<l.length) (hL:1≤L) (hi:l.getD i 0=L):Pr l L (i+1) c↔(c=i∨Pr l L i c):=by
 unfold Pr;constructor
 ·rintro⟨h1,h2,h3⟩;by_cases e:c=i
  ·exact .inl e
  ·exact .inr ⟨h1,h2,by omega⟩
 ·rintro(rfl|⟨h1,h2,h3⟩)
  ·have:wn l c=L:=by unfold wn;omega
   exact⟨hn,by omega,by omega⟩
  ·exact⟨h1,h2,by omega⟩
theorem knp {l:List Int} {L i:Nat} (h:∀c∈l,kR c) (hi:l.getD i 0≠L):wA l L (i+1)=wA l L i:=by
 funext c;unfold wA;rw[propext (kjM (c:=c) h hi)]
theorem knq {l:List Int} {M L i:Nat} (h:∀c∈l,kR c) (hi:l.getD i 0≠L):wB l M L (i+1)=wB l M L i:=by
 funext c;unfold wB;rw[propext (kjM (c:=c) h hi)]
theorem kog {l:List Int} {L i:Nat} (hn:i<l.length) (hL:1≤L) (hi:l.getD i 0=L):wA l L (i+1)=q6 (wA l L i) i (gs l L i / 2^(L-1)):=by
 funext c
 rw[kU];have hw:wn l i=L:=by unfold wn;omega
 by_cases e:c=i
 ·subst e;rw[if_pos rfl];unfold wA;rw[if_pos ((kgs hn hL hi).2 (.inl rfl))];unfold wx;rw[hw]
 ·rw[if_neg e];unfold wA;rw[propext ((kgs (c:=c) hn hL hi).trans ⟨fun h=>h.resolve_left e,fun h=>.inr h⟩)]
theorem koh {l:List Int} {M L i:Nat} (hn:i<l.length) (hL:1≤L) (hi:l.getD i 0=L):wB l M L (i+1)=q6 (wB l M L i) i ((M:Int)+1-L):=by
 funext c
 rw[kU];have hw:wn l i=L:=by unfold wn;omega
 by_cases e:c=i
 ·subst e;rw[if_pos rfl];unfold wB;rw[if_pos ((kgs hn hL hi).2 (.inl rfl)),hw]
 ·rw[if_neg e];unfold wB;rw[propext ((kgs (c:=c) hn hL hi).trans ⟨fun h=>h.resolve_left e,fun h=>.inr h⟩)]
theorem kjN {l:List Int} {L c:Nat}:Pr l L l.length c↔Pr l (L+1) 0 c:=by
 unfold Pr;constructor
 ·rintro⟨h1,h2,h3⟩;exact⟨h1,h2,by omega⟩
 ·rintro⟨h1,h2,h3⟩;exact⟨h1,h2,by omega⟩
theorem knr (l:List Int) (L:Nat):wA l L l.length=wA l (L+1) 0:=by funext c;unfold wA;rw[propext (kjN (c:=c))]
theorem kns (l:List Int) (M L:Nat):wB l M L l.length=wB l M (L+1) 0:=by funext c;unfold wB;rw[propext (kjN (c:=c))]
def Sy (l:List Int) (c:Nat):Prop:=c<l.length∧1≤wn l c
open Classical in
noncomputable def xA (l:List Int) (c:Nat):Int:=if Sy l c then wx l c else 0
open Classical in
noncomputable def nA (l:List Int) (M c:Nat):Int:=if Sy l c then(M:Int)+1-wn l c else 0
theorem kmv {l:List Int} {M:Nat} (hW:Wt l M) {c:Nat}:Pr l (M+2) 0 c↔Sy l c:=by
 unfold Pr Sy;constructor
 ·rintro⟨h1,h2,_⟩;exact⟨h1,h2⟩
 ·rintro⟨h1,h2⟩;have:=kh4 hW h1;exact⟨h1,h2,by omega⟩
theorem koi {l:List Int} {M:Nat} (hW:Wt l M):wA l (M+2) 0=xA l:=by funext c;unfold wA xA;rw[propext (kmv (c:=c) hW)]
theorem koj {l:List Int} {M:Nat} (hW:Wt l M):wB l M (M+2) 0=nA l M:=by funext c;unfold wB nA;rw[propext (kmv (c:=c) hW)]
theorem keY {l:List Int} {M:Nat} (hW:Wt l M) (c:Nat):0≤nA l M c∧nA l M c≤M∧(nA l M c=0↔¬Sy l c):=by
 unfold nA;split
 ·rename_i h;have:=kh4 hW h.1;have h2:=h.2;refine⟨by omega,by omega,?_,fun hh=>(hh h).elim⟩
  intro;omega
 ·rename_i h;exact⟨by omega,by omega,fun _=>h,fun _=>rfl⟩
theorem kmw {l:List Int} {M:Nat} (hW:Wt l M) {c:Nat} (hc:Sy l c):0≤wx l c∧wx l c<2^(M+1-wn l c):=by
 have h1:=keX hW hc.2 (by have:=kh4 hW hc.1;omega) (i:=c) (by have:=hc.1;omega);have h2:=kof hW hc.1 hc.2;have hp:=p2 (wn l c-1);have hle:=kh4 hW hc.1;have hc2:=hc.2;constructor
 ·unfold wx;exact Int.ediv_nonneg h1.1 (by omega)
 ·have h0:Dc l (gs l (wn l c) c) c:=⟨hc.1,hc.2,Int.le_refl _,by omega⟩;apply Int.ediv_lt_of_lt_mul hp
  rw[←Int.pow_add,show M+1-wn l c+(wn l c-1)=M by omega];apply Classical.byContradiction
  intro hlt;have e:gs l (wn l c) c=2^M:=by omega
  have h3:=kaZ l (wn l c) (i:=c+1) (j:=l.length) (by have:=hc.1;omega);have h4:=keX hW hc.2 (by omega) (i:=l.length) (by omega);have h5:gs l (wn l c) (c+1)=gs l (wn l c) c+2^(wn l c-1):=by
   rw[kbP,if_pos (by unfold wn at *;omega)]
  omega
theorem kmx {l:List Int} {M:Nat} (hW:Wt l M) (c:Nat):0≤xA l c∧xA l c<4096:=by
 unfold xA;split
 ·rename_i h;have h1:=kmw hW h;have h2:(2:Int)^(M+1-wn l c)≤2^12:=qY (by have:=hW.2.2.2.2.2.2;have:=h.2;omega);omega
 ·omega
noncomputable def pb (l:List Int) (M:Nat) (b:List Int):Nat→List Int
 |0=>[]
 |j+1=>pb l M b j++kr (xA l (b.getD (b.length-1-j) 0).toNat) (nA l M (b.getD (b.length-1-j) 0).toNat).toNat
theorem ki6 (l:List Int) (M:Nat) (b:List Int):∀j,∀x∈pb l M b j,kT x
 |0=>by simp[pb]
 |j+1=>by
  intro x hx;simp only[pb,List.mem_append] at hx;rcases hx with hx|hx
  ·exact ki6 l M b j x hx
  ·exact kX _ _ x hx
theorem kgt {l:List Int} {M:Nat} (hW:Wt l M) (b:List Int):∀j,(pb l M b j).length≤11*j
 |0=>by simp[pb]
 |j+1=>by
  have h1:=kgt hW b j;have h2:=keY hW (b.getD (b.length-1-j) 0).toNat;have h3:=hW.2.2.2.2.2.2;simp only[pb,List.length_append,kg];omega
theorem kok {l:List Int} {M:Nat} (hW:Wt l M) (b:List Int) (j:Nat):k8 (pb l M b j) (xA l (b.getD (b.length-1-j) 0).toNat) (nA l M (b.getD (b.length-1-j) 0).toNat)=pb l M b (j+1):=by
 have h2:=keY hW (b.getD (b.length-1-j) 0).toNat;have h3:=hW.2.2.2.2.2.2;unfold k8;rw[if_pos (by omega)];rfl
def kbv (l b:List Int) (j:Nat):Prop:=∀i,i<j→Sy l (b.getD (b.length-1-i) 0).toNat
theorem knt (l b:List Int) (cap cap2:Nat) (M:Nat) (hl:∀c∈l,kR c) (hb:∀c∈b,kR c) (hW:Wt l M) (hbl:b.length≤131072) :
    Con Try.prog 47 [.slice 0 .z 1 l.length cap,.slice 1 .z 1 b.length cap2] [.ro .u8 l,.ro .u8 b]
      (fun v H R=>R=[]∧∃L c',H=[.ro .u8 l,.ro .u8 b,.free,.free,.free,.free,.free,.free,.buf 5 .u8 L c'] ∧
        ((v=.tup [.val (.slice none 0 0),.int .i64 2]∧¬kbv l b b.length) ∨
         (v=.tup [.slice 8 .z 1 L.length c',.int .i64 0]∧L=pack (pb l M b b.length++[1])∧kbv l b b.length))):=by
  have hsz:=kcU l cap M hl (by have:=hW.2.1;omega) (.inl ⟨M,hW,rfl⟩);have hput:∀j c,j<b.length→Con Try.prog 29 [.ptr 0 .z 2 0,.int .u64 (xA l (b.getD (b.length-1-j) 0).toNat),.int .i64 (nA l M (b.getD (b.length-1-j) 0).toNat)]
      [.one 71 [.slice 1 .z 1 (pack (pb l M b j)).length c,.int .i64 (pb l M b j).length],.buf 5 .u8 (pack (pb l M b j)) c]
      (fun v H R=>v=.int .i64 (j8 (nA l M (b.getD (b.length-1-j) 0).toNat))∧R=[1]∧∃c',H=[.one 71 [.slice 1 .z 1 (pack (pb l M b (j+1))).length c',.int .i64 (pb l M b (j+1)).length],.buf 5 .u8 (pack (pb l M b (j+1))) c']):=by
    intro j c hj;have h1:=kmx hW (b.getD (b.length-1-j) 0).toNat;have h2:=kgt hW b j;have:=kl4 (pb l M b j) c (xA l (b.getD (b.length-1-j) 0).toNat) (nA l M (b.getD (b.length-1-j) 0).toNat) ⟨h1.1,by omega⟩ (ki6 l M b j) (by omega);rw[kok hW] at this;exact this
  have hclose:=fun c=>kfC (pb l M b b.length) c (ki6 l M b b.length) (by have:=kgt hW b b.length;omega)
  have hsy:∀j,(nA l M (b.getD (b.length-1-j) 0).toNat=0↔¬Sy l (b.getD (b.length-1-j) 0).toNat):=fun j=>(keY hW _).2.2
  have hpb0:pack (pb l M b 0)=[]:=(show pack []=[] by decide);have hpl0:((pb l M b 0).length:Int)=0:=rfl;have hpbl:=kgt hW b;have hall0:kbv l b 0:=fun i hi=>by omega
  have halls:∀j,kbv l b j→Sy l (b.getD (b.length-1-j) 0).toNat→kbv l b (j+1):=fun j h1 h2 i hi=>by
    by_cases e:i=j
    · subst e;exact h2
    · exact h1 i (by omega)
  have hallb:∀j,j<b.length→¬Sy l (b.getD (b.length-1-j) 0).toNat→¬kbv l b b.length:=fun j h1 h2 h3=>h2 (h3 j h1)
  have hgb:=qH hb;refine kw (klT [2,3,4,5,6,7] (kH (kl kD kpb ?_)))
  intro vb vc vw vtoN vofN vaddN _ _ _ _ vgd _ vln _ _ _ _ _ _ vnotB _ hw qb qc qw qtoN qofN qaddN _ _ _ _ qgd _ qln _ _ _ _ _ _ qnotB _;have f16:=kpi;have f33:=koL;have hm:=kD;generalize Try.prog=P at *;have hM1:=hW.pos;have hM11:=hW.2.2.2.2.2.2;have hn2:=hW.1;have hn256:=hW.2.1;have hA0:=knn l;have hB0:=kno l M;have hgs0:=kmr l hl;have hgss:=kbP l;have hgsn:=fun L hL=>@kdZ l L hL
  have hgsr:=fun L i h1 h2 h3=>@keX l M hW L i h1 h2 h3
  have hgd:=fun L i h1 h2=>@kmu l M hW L h1 h2 i
  have hAs:=fun L i h=>@knp l L i hl h
  have hBs:=fun L i h=>@knq l M L i hl h
  have hAp:=fun L i h1 h2 h3=>@kog l L i h1 h2 h3
  have hBp:=fun L i h1 h2 h3=>@koh l M L i h1 h2 h3
  have hAn:=knr l;have hBn:=kns l M;have hAa:=koi hW;have hBa:=koj hW;have hge:=qH hl;clear hW;generalize pb l M b=PB at *;generalize kbv l b=ALL at *;generalize Sy l=SY at *;generalize hpk:pack=PK at *;generalize j8=PE at *;generalize gs l=GS at *;generalize wA l=WA at *;generalize wB l M=WB at *;generalize xA l=XA at *;generalize nA l M=NA at *;obtain⟨mI,hmI⟩:∃mI:Int,mI=M:=⟨_,rfl⟩;rw[←hmI] at hsz;generalize hn:l.length=n at *;generalize hlb:b.length=lb at *;have hto:∀i:Nat,vtoN (i:Int)=i:=fun i=>by simp only[qtoN,Int.toNat_natCast]
  have hadd0:∀i,vaddN 0 i=i:=fun i=>by simp only[qaddN,Nat.zero_add]
  have hvln:vln l=n:=by simp only[qln,hn]
  have hvlb:vln b=lb:=by simp only[qln,hlb]
  have hvgd:∀l i,vgd l i=l.getD i 0:=fun l i=>by simp only[qgd]
  have hnf1:vnotB true=false:=by simp only[qnotB];rfl
  have d1:vc .eql mI 0=false:=by rw[qc,ky];omega
  have d2:vc .gtr (vofN lb) 131072=false:=by rw[qc,kx,qofN];simp only;omega
  cbv;refine ka (ρ:=[(0,.z)]) hsz ⟨by rfl,by rfl,by rfl,by cbv;exact⟨⟨⟨by omega,fun i _=>by rw[Nat.zero_add]⟩⟩,trivial⟩⟩ ?_
  rintro v H R js ⟨rfl,rfl,rfl⟩;cbv;rw[d1];cbv;rw[d2];cbv;refine kfx hw hm f16 (by rfl) ?_
  cbv;refine⟨fun _=>rfl,fun _=>rfl,?_⟩
  intro js;refine kaP (by rfl) (by rfl) (by cbv;exact⟨fun _=>rfl,trivial⟩) (by cbv;exact⟨fun _=>rfl,trivial⟩) (by rfl) ?_
  refine kfx hw hm f33 (by rfl) ?_
  cbv;refine WX.cv (Cv.arrEq 2 (fun m=>[.int .u64 (WA 1 0 m),.int .i64 (WB 1 0 m)]) (by rfl) (by intro i;rw[hA0,hB0];rfl) (Cv.here ?_))
  obtain⟨m1,hm1⟩:∃m1:Int,m1=mI+1:=⟨_,rfl⟩;have em1:vb .add .i64 mI 1=m1:=by(try simp only[nc] at *);rw[qb,kh (by omega) (by omega)];omega
  have en:vofN n=(n:Int):=by simp only[qofN]
  refine kv (α:=Int×Int×(Nat→Int)×(Nat→Int)) [6,7,8,9,10,11,12,13,14,15,16,17,18,19,20,21,22,23,24,25,26,27,28,29,30,31,32,33,34,35,36,37,38,39,40,41,42,43,44,45,46] [] (fun(k,x,_,_)=>[(5,.int .i64 k),(4,.int .i64 x)]) (fun(_,_,A,B)=>[(2,.arr 160 2 256 (fun m=>[.int .u64 (A m),.int .i64 (B m)]))])
    (fun(k,x,A,B)=>∃L:Nat,k=L∧1≤L∧L≤M+2∧x=GS L 0∧A=WA L 0∧B=WB L 0) (fun(k,_)=>M+2-k.toNat) hw hm ?_ ?_
  · refine Cv.genAt [5,4] [] (Cv.fold [6,7,8,9,10,11,12,13,14,15,16,17,18,19,20,21,22,23,24,25,26,27,28,29,30,31,32,33,34,35,36,37,38,39,40,41,42,43,44,45,46] 7 [] (by exact Nat.le_refl _) (by exact Nat.le_of_ble_eq_true rfl) (by rfl) (by cbv) ?_)
    intro js;refine⟨(_,_,_,_),?_,js,rfl⟩
    exact⟨1,rfl,by omega,by omega,hgs0.symm,rfl,rfl⟩
  · rintro⟨k,x,A,B⟩ js ⟨L,hk,hL1,hL2,hx,hA,hB⟩
    cbv;rw[em1];generalize hz1:vc .leq k m1=z1;cases z1
    rotate_left
    · rw [qc, kay] at hz1
      have hlt:L≤M+1:=by((try simp only[nc] at *);omega)
      have hgn:=hgsn L hL1;have hAn1:=hAn L;have hBn1:=hBn L;obtain⟨k1,hk1⟩:∃k1:Int,k1=((L+1:Nat):Int):=⟨_,rfl⟩;have ek:vb .add .i64 k 1=k1:=by(try simp only[nc] at *);rw[qb,kh (by omega) (by omega)];omega
      have hmu:∀_:Unit,M+2-k1.toNat<M+2-k.toNat:=fun _=>by((try simp only[nc] at *);omega)
      cbv;rw[en];refine kv (α:=Int×Int×(Nat→Int)×(Nat→Int)) ([6,7]++[17,18,19,20,21,22,23,24,25,26,27,28,29,30,31,32,33,34,35,36,37,38,39,40,41,42,43,44,45,46]) [] (fun(q,x,_,_)=>[(16,.int .i64 q),(4,.int .i64 x)]) (fun(_,_,A,B)=>[(2,.arr 160 2 256 (fun m=>[.int .u64 (A m),.int .i64 (B m)]))])
        (fun(q,x,A,B)=>∃i:Nat,q=i∧i≤n∧x=GS L i∧A=WA L i∧B=WB L i) (fun(q,_)=>n-q.toNat) hw hm ?_ ?_
      · refine Cv.genAt [16,4] [] (Cv.fold ([6,7]++[17,18,19,20,21,22,23,24,25,26,27,28,29,30,31,32,33,34,35,36,37,38,39,40,41,42,43,44,45,46]) 7 [] (by exact Nat.le_refl _) (by exact Nat.le_of_ble_eq_true rfl) (by rfl) (by cbv) ?_)
        intro js;refine⟨(_,_,_,_),?_,js,rfl⟩
        exact⟨0,rfl,by omega,hx,hA,hB⟩
      · rintro⟨q,x,A,B⟩ js2 ⟨i,hq,hi,hx,hA,hB⟩
        cbv;generalize hz2:vc .lss q (n:Int)=z2;cases z2
        · rw[qc,kb] at hz2
          obtain rfl:i=n:=by((try simp only[nc] at *);omega)
          cbv;rw[ek];refine Cv.fold [6,7,8,9,10,11,12,13,14,15,16,17,18,19,20,21,22,23,24,25,26,27,28,29,30,31,32,33,34,35,36,37,38,39,40,41,42,43,44,45,46] 7 [] (by exact Nat.le_refl _) (by exact Nat.le_of_ble_eq_true rfl) (by rfl) (by cbv) ?_
          intro js;refine⟨(_,_,_,_),?_,js,rfl⟩
          exact⟨⟨L+1,hk1,by omega,by omega,by rw[hx,hgn],by rw[hA,hAn1],by rw[hB,hBn1]⟩,hmu ()⟩
        · rw[qc,ko] at hz2
          have hlt2:i<n:=by((try simp only[nc] at *);omega)
          have hti:vtoN q=i:=by rw[hq];exact hto i
          have hinR:0≤q∧q<(n:Int):=by((try simp only[nc] at *);omega)
          obtain⟨q1,hq1⟩:∃q1:Int,q1=((i+1:Nat):Int):=⟨_,rfl⟩;have eq1:vb .add .i64 q 1=q1:=by(try simp only[nc] at *);rw[qb,kh (by omega) (by omega)];omega
          have hmu2:∀_:Unit,n-q1.toNat<n-q.toNat:=fun _=>by((try simp only[nc] at *);omega)
          have hx0:=hge i;have hgs1:=hgss L i;have hr1:=hgsr L i hL1 hlt (by omega);have hr2:=hgsr L (i+1) hL1 hlt (by omega);have hdv:=hgd L i hL1 hlt;have hAs1:=hAs L i;have hBs1:=hBs L i;have hAp1:=hAp L i hlt2 hL1;have hBp1:=hBp L i hlt2 hL1;have hp11:(2:Int)^M≤2^11:=qY hM11;cbv;rw[hti,hadd0,hvgd];refine⟨⟨hinR⟩,⟨by omega⟩,⟨by omega⟩,?_⟩
          generalize hxi:l.getD i 0=y at *;have ew:vw .i64 y=y:=by rw[qw];exact wrap_i64 (by omega) (by omega)
          rw[ew];generalize hz3:vc .neq y k=z3;cases z3
          rotate_left
          · rw[qc,kaw] at hz3
            have hne:y≠(L:Int):=by((try simp only[nc] at *);omega)
            rw[if_neg hne] at hgs1;cbv;rw[eq1];refine Cv.fold ([6,7]++[17,18,19,20,21,22,23,24,25,26,27,28,29,30,31,32,33,34,35,36,37,38,39,40,41,42,43,44,45,46]) 7 [] (by exact Nat.le_refl _) (by exact Nat.le_of_ble_eq_true rfl) (by rfl) (by cbv) ?_
            intro js;refine⟨(_,_,_,_),?_,js,rfl⟩
            exact⟨⟨i+1,hq1,hlt2,by rw[hx,hgs1];omega,by rw[hA,hAs1 hne],by rw[hB,hBs1 hne]⟩,hmu2 ()⟩
          · rw[qc,kax] at hz3
            have hyL:y=(L:Int):=by(try simp only[nc] at *);omega
            rw[if_pos hyL] at hgs1;have hAp2:=hAp1 hyL;have hBp2:=hBp1 hyL;obtain⟨k0,hk0⟩:∃k0:Int,k0=((L-1:Nat):Int):=⟨_,rfl⟩;have ek0:vb .sub .i64 k 1=k0:=by(try simp only[nc] at *);rw[qb,ku (by omega) (by omega)];omega
            have ew0:vw .u64 k0=k0:=by(try simp only[nc] at *);rw[qw];exact wrap_u64 (by omega) (by omega)
            obtain⟨x1,hx1⟩:∃x1:Int,x1=GS L i / 2^(L-1):=⟨_,rfl⟩;have hpL:(0:Int)<2^(L-1):=p2 _;have hpL2:(2:Int)^(L-1)≤2^11:=qY (by omega);have hx1r:0≤x1∧x1≤2048:=by
              rw[hx1];have a1:=Int.ediv_nonneg hr1.1 (Int.le_of_lt hpL);have a2:=Int.ediv_le_self (2^(L-1)) hr1.1;constructor
              · exact a1
              · (try simp only[nc] at *);omega
            have es:vb .shr .i64 x k0=x1:=by
              rw[qb,kb9 (by show k0≤64;(try simp only[nc] at *);omega),hx1,hx,hk0,Int.toNat_natCast]
            have ew1:vw .u64 x1=x1:=by rw[qw];exact wrap_u64 (by omega) (by omega)
            obtain⟨n1,hn1⟩:∃n1:Int,n1=(M:Int)+1-L:=⟨_,rfl⟩;have en1:vb .sub .i64 m1 k=n1:=by(try simp only[nc] at *);rw[qb,ku (by omega) (by omega)];omega
            have hk00:0≤k0:=by((try simp only[nc] at *);omega)
            rw[←hx1] at hAp2;rw[←hn1] at hBp2;obtain⟨s1,hs1⟩:∃s1:Int,s1=2^(L-1):=⟨_,rfl⟩;have esl:vb .shl .i64 1 k0=s1:=by
              rw[qb,hs1,hk0];show IntKind.i64.wrap (1*2^(min (((L-1:Nat):Int).toNat) IntKind.i64.bits))=_
              rw[Int.toNat_natCast,show min (L-1) IntKind.i64.bits=L-1 by simp[IntKind.bits];omega,Int.one_mul];exact wrap_i64 (by omega) (by omega)
            obtain⟨x2,hx2⟩:∃x2:Int,x2=GS L (i+1):=⟨_,rfl⟩;have ex2:vb .add .i64 x s1=x2:=by
              have e:x+s1=x2:=by rw[hx2,hgs1,hx,hs1]
              rw[qb,kh (by(try simp only[nc] at *);omega) (by(try simp only[nc] at *);omega),e]
            cbv;rw[ek0,ew0,es,ew1,em1,en1];refine⟨⟨hk00⟩,?_⟩
            refine kaQ hw hm (by rfl) ?_
            cbv;rw[hti,klU,klV];rw[←hA] at hAp2;rw[←hB] at hBp2;have hi256:i<256:=by omega
            refine⟨fun _=>rfl,⟨⟨hinR.1,by((try simp only[nc] at *);omega)⟩⟩,⟨hi256⟩,⟨hi256⟩,?_⟩
            intro js1;cbv;rw[hnf1];cbv;rw[ek0,ew0,esl,ex2,eq1];refine⟨⟨hk00⟩,?_⟩
            refine Cv.fold ([6,7]++[17,18,19,20,21,22,23,24,25,26,27,28,29,30,31,32,33,34,35,36,37,38,39,40,41,42,43,44,45,46]) 7 [] (by exact Nat.le_refl _) (by exact Nat.le_of_ble_eq_true rfl) (by rfl) (by cbv) ?_
            intro js;refine⟨(_,_,_,_),?_,js,rfl⟩
            exact⟨⟨i+1,hq1,hlt2,hx2,hAp2.symm,hBp2.symm⟩,hmu2 ()⟩
    · rw[qc,kaz] at hz1
      have hL:L=M+2:=by((try simp only[nc] at *);omega)
      subst hL;rw[hAa] at hA;rw[hBa] at hB;cbv;intro js1;cbv;refine⟨fun _=>rfl,?_⟩
      refine WX.cv (Cv.nilB 7 0 5 .u8 (by rfl) (by cbv;exact⟨fun _=>rfl,trivial⟩) (Cv.here ?_))
      cbv;have elb:vofN lb=(lb:Int):=by simp only[qofN]
      rw[elb];refine kv (α:=Int×Nat×Nat×Int×List Int) [34,35,36,37,38,39,40,41,42,43,44,45,46,47,48,49,50,51,52,53,54,55,56,57,58,59,60,61] [8] (fun(k,_,_,_,_)=>[(11,.int .i64 k)]) (fun(_,c,n1,m,L)=>[(7,.one 71 [.slice 8 .z 1 n1 c,.int .i64 m]),(8,.buf 5 .u8 L c)])
        (fun(k,c,n1,m,L)=>∃j:Nat,k=(lb:Int)-1-j∧j≤lb∧L=PK (PB j)∧n1=L.length∧m=(PB j).length∧ALL j) (fun(k,_)=>(k+1).toNat) hw hm ?_ ?_
      · refine Cv.genAt [11] [7] (Cv.fold [34,35,36,37,38,39,40,41,42,43,44,45,46,47,48,49,50,51,52,53,54,55,56,57,58,59,60,61] 9 [8] (by exact Nat.le_refl _) (by exact Nat.le_of_ble_eq_true rfl) (by rfl) (by cbv) ?_)
        intro js;refine⟨(_,_,_,_,_),?_,js,rfl⟩
        exact⟨0,by(try simp only[nc] at *);rw[qb,ku (by omega) (by omega)];omega,by omega,hpb0.symm,rfl,hpl0.symm,hall0⟩
      · rintro⟨k,c,n1,m,L⟩ js ⟨j,hk,hj,hL,hn1,hm2,hal⟩
        cbv;generalize hz4:vc .geq k 0=z4;cases z4
        · rw[qc,k7] at hz4
          obtain rfl:j=lb:=by((try simp only[nc] at *);omega)
          have hclose1:=hclose c;simp only[nc] at hm2 hclose1;rw[←hL,←hn1,←hm2] at hclose1;generalize hl3:PK (PB j++[1])=L3 at *;generalize hn3:L3.length=n3 at *;cbv;refine ka (ρ:=[(7,.z),(8,.z)]) hclose1 ⟨by rfl,by rfl,by rfl,by cbv;exact⟨fun _=>rfl,trivial⟩⟩ ?_
          rintro v H R js2 ⟨rfl,c',rfl,rfl⟩;cbv;subst hn3;exact⟨fun _=>rfl,L3,c',rfl,.inr ⟨rfl,rfl,hal⟩⟩
        · rw[qc,jP] at hz4
          have hjl:j<lb:=by((try simp only[nc] at *);omega)
          have hti:vtoN k=lb-1-j:=by
            have e:k=((lb-1-j:Nat):Int):=by((try simp only[nc] at *);omega)
            rw[e];exact hto _
          have hinR:0≤k∧k<(lb:Int):=by((try simp only[nc] at *);omega)
          have hput1:=hput j c hjl;have hsy1:=hsy j;have hs1:=halls j hal;have hb1:=hallb j hjl;have hy:=hgb (lb-1-j);obtain⟨ib,hib⟩:∃ib,ib=lb-1-j:=⟨_,rfl⟩;rw[←hib] at hti hput1 hsy1 hs1 hb1 hy;simp only[nc] at hm2 hput1;rw[←hL,←hn1,←hm2] at hput1;generalize hyy:b.getD ib 0=y at *;have hty:vtoN y=y.toNat:=by rw[qtoN]
          obtain⟨Y,hY⟩:∃Y,Y=y.toNat:=⟨_,rfl⟩;rw[←hY] at hty hput1 hsy1 hs1 hb1;have hY256:Y<256:=by omega
          have hyR:0≤y∧y<(256:Int):=by omega
          rw[←hA] at hput1;rw[←hB] at hput1 hsy1;cbv;rw[hti,hadd0,hvgd,hyy];refine⟨⟨hinR⟩,⟨by omega⟩,⟨by omega⟩,⟨hyR⟩,?_⟩
          rw[hty];refine⟨⟨hY256⟩,?_⟩
          have hlt':ib<vln b:=by omega
          generalize hz5:vc .eql (B Y) 0=z5;cases z5
          rotate_left
          · rw[qc,kJ] at hz5
            have hbad:=hb1 (hsy1.1 hz5);cbv;exact⟨L,c,rfl,.inl ⟨rfl,hbad⟩⟩
          · rw[qc,ky] at hz5
            have hal2:=hs1 (Classical.not_not.1 (fun h=>hz5 (hsy1.2 h)));obtain⟨k1,hk1⟩:∃k1:Int,k1=(lb:Int)-1-((j+1:Nat):Int):=⟨_,rfl⟩;have ek1:vb .sub .i64 k 1=k1:=by(try simp only[nc] at *);rw[qb,ku (by omega) (by omega)];omega
            have hmu:∀_:Unit,(k1+1).toNat<(k+1).toNat:=fun _=>by((try simp only[nc] at *);omega)
            simp only[nc] at hput1;generalize hl3:PK (PB (j+1))=L3 at *;generalize hn3:L3.length=n3 at *;generalize hm3:((PB (j+1)).length:Int)=m3 at *;cbv;rw[hti,hadd0,hvgd,hyy,hty];repeat (first|refine And.intro ⟨hinR⟩ ?_|refine And.intro ⟨hyR⟩ ?_|refine And.intro ⟨hY256⟩ ?_|refine And.intro ⟨hlt'⟩ ?_)
            refine ka (ρ:=[(7,.z),(8,.z)]) hput1 ⟨by rfl,by rfl,by rfl,by cbv;exact⟨fun _=>rfl,trivial⟩⟩ ?_
            rintro v H R js2 ⟨rfl,rfl,c',rfl⟩;cbv;refine⟨fun _=>rfl,⟨⟨hlt'⟩,by rw[hvgd,hyy]⟩,⟨⟨hlt'⟩,by rw[hvgd,hyy]⟩,?_⟩
            rw[ek1];refine Cv.fold [34,35,36,37,38,39,40,41,42,43,44,45,46,47,48,49,50,51,52,53,54,55,56,57,58,59,60,61] 9 [8] (by exact Nat.le_refl _) (by exact Nat.le_of_ble_eq_true rfl) (by rfl) (by cbv) ?_
            intro js;refine⟨(_,_,_,_,_),?_,js,rfl⟩
            exact⟨⟨j+1,hk1,hjl,hl3.symm,hn3.symm,hm3.symm,hal2⟩,hmu ()⟩
open Classical in
noncomputable def dc (l:List Int) (t:Int):Nat:=if h:∃c,Dc l t c then h.choose else 0
theorem koW {l:List Int} (h:∀c∈l,kR c) {t:Int} {c:Nat} (hc:Dc l t c):dc l t=c:=by
  have he:∃c,Dc l t c:=⟨c,hc⟩;unfold dc;rw[dif_pos he];exact Dc.uniq h he.choose_spec hc
theorem Dc.sy {l:List Int} {t:Int} {c:Nat} (h:Dc l t c):Sy l c:=⟨h.1,h.2.1⟩
noncomputable def pos (l:List Int) (M:Nat) (b:List Int) (p:Int):Nat→Int
  |0=>p
  |j+1=>pos l M b p j-nA l M (dc l (rd b (pos l M b p j) M))
noncomputable def sym (l:List Int) (M:Nat) (b:List Int) (p:Int) (j:Nat):Nat:=dc l (rd b (pos l M b p j) M)
def TI (l:List Int) (M:Nat) (G:Int) (A B:Nat→Int):Prop:=∀t:Nat,(t:Int)<G→A t=dc l t∧B t=nA l M (dc l t)
theorem TI.zero (l:List Int) (M:Nat) (A B:Nat→Int):TI l M 0 A B:=fun t ht=>by omega
theorem TI.put {l:List Int} {M:Nat} (h:∀c∈l,kR c) {A B:Nat→Int} {L i k t:Nat} (hn:i<l.length) (hL:1≤L) (hi:l.getD i 0=L) (hk:(k:Int)<2^(L-1)) (ht:(t:Int)=gs l L i+k)
    (hT:TI l M (gs l L i+k) A B):TI l M (gs l L i+((k+1:Nat):Int)) (q6 A t i) (q6 B t ((M:Int)+1-L)):=by
  have hw:wn l i=L:=by unfold wn;omega
  have hD:Dc l t i:=⟨hn,by omega,by rw[hw];omega,by rw[hw];omega⟩;have hsy:Sy l i:=hD.sy;intro u hu;rw[kU,kU];by_cases e:u=t
  · subst e
    rw[if_pos rfl,if_pos rfl,koW h hD];refine⟨rfl,?_⟩
    unfold nA;rw[if_pos hsy,hw]
  · rw[if_neg e,if_neg e]
    exact hT u (by push_cast at hu;omega)
theorem kmy (l b:List Int) (cap cap2:Nat) (M:Nat) (hl:∀c∈l,kR c) (hb:∀c∈b,kR c) (hW:Wt l M) (hbl:b.length≤131072) :
    Con Try.prog 47 [.slice 0 .z 1 l.length cap,.slice 1 .z 1 b.length cap2] [.ro .u8 l,.ro .u8 b]
      (fun v H R=>R=[]∧∃L c',H=[.ro .u8 l,.ro .u8 b,.buf 5 .u8 L c'] ∧
        ((v=.tup [.val (.slice none 0 0),.int .i64 2]∧¬kbv l b b.length) ∨
         (v=.tup [.slice 2 .z 1 L.length c',.int .i64 0]∧L=pack (pb l M b b.length++[1])∧kbv l b b.length))):=by
  refine khC [0,1,8] rfl rfl (Con.mono (knt l b cap cap2 M hl hb hW hbl) ?_)
  rintro v H R ⟨rfl,L,c',rfl,⟨rfl,h⟩|⟨rfl,h1,h2⟩⟩
  · exact⟨.tup [.val (.slice none 0 0),.int .i64 2],[.ro .u8 l,.ro .u8 b,.buf 5 .u8 L c'],rfl,rfl,⟨rfl,rfl,rfl,trivial⟩,rfl,L,c',rfl,.inl ⟨rfl,h⟩⟩
  · exact⟨.tup [.slice 2 .z 1 L.length c',.int .i64 0],[.ro .u8 l,.ro .u8 b,.buf 5 .u8 L c'],rfl,rfl,⟨rfl,rfl,rfl,trivial⟩,rfl,L,c',rfl,.inr ⟨rfl,h1,h2⟩⟩
theorem kmz {l:List Int} {c:Nat} (h:Sy l c):xA l c=wx l c:=by unfold xA;rw[if_pos h]
theorem kmA {l:List Int} {M c:Nat} (h:Sy l c):nA l M c=(M:Int)+1-wn l c:=by unfold nA;rw[if_pos h]
theorem kmB {x:Int} (h:65536≤x):kB x=16+kB (x / 65536):=by
 have e:x / 65536=x / 256 / 256:=by omega
 rw[e,keM (x:=x) (by omega),keM (x:=x / 256) (by omega)];omega
set_option maxRecDepth 100000 in
theorem kk4 (x:Int) (hx:65536≤x∧x<16777216):Con Try.prog 106 [.int .u64 x] [] (fun v H R=>v=.int .i64 (kB x)∧H=[]∧R=[]):=by
 refine kw (kl kD knP ?_)
 intro vb vc vw vtoN _ _ _ _ _ _ vgd _ vln _ _ _ _ _ vbyteV _ _ _ qb qc qw qtoN _ _ _ _ _ _ qgd _ qln _ _ _ _ _ qbyteV _ _;have hm:=kD;generalize Try.prog=P at *;have hl:lenTab.length=256:=by rfl
 have key:∀y:Int,0≤y→y<256→vw .i64 (vbyteV (vgd lenTab (vtoN y)))=kB y:=by
  intro y h0 h1;obtain⟨n,rfl⟩:∃n:Nat,y=n:=⟨y.toNat,by omega⟩;rw[qw,qbyteV,qgd,qtoN];exact kdG ⟨n,by omega⟩
 have hb:=@kmB x hx.1;have hbr:=@kmd (x / 65536) (by omega) (by omega);have e1:kn6=(.seq (.ops [⟨(some 2),.mv (.k (.lit .i64 0)),none,[]⟩])
  (.seq (.seq (.ops [⟨(some 3),.mv (.t 0),none,[]⟩,
   ⟨(some 4),.cmp .geq (.t 3) (.k (.lit .u64 4294967296)),none,[]⟩])
  (.cond (.t 4) (.seq (.ops [⟨(some 5),.mv (.t 0),none,[]⟩,
   ⟨(some 6),.bin .shr .u64 (.t 5) (.k (.lit .u64 32)),none,[]⟩,
   ⟨(some 0),.mv (.t 6),none,[]⟩])
  (.ops [⟨(some 2),.mv (.k (.lit .i64 32)),none,[]⟩])) (.skip)))
  (.seq (.seq (.ops [⟨(some 7),.mv (.t 0),none,[]⟩,
   ⟨(some 8),.cmp .geq (.t 7) (.k (.lit .u64 65536)),none,[]⟩])
  (.cond (.t 8) (.seq (.ops [⟨(some 9),.mv (.t 0),none,[]⟩,
   ⟨(some 10),.bin .shr .u64 (.t 9) (.k (.lit .u64 16)),none,[]⟩,
   ⟨(some 0),.mv (.t 10),none,[]⟩])
  (.ops [⟨(some 11),.mv (.t 2),none,[]⟩,
   ⟨(some 12),.bin .add .i64 (.t 11) (.k (.lit .i64 16)),none,[]⟩,
   ⟨(some 2),.mv (.t 12),none,[]⟩])) (.skip)))
  (.seq (.seq (.ops [⟨(some 13),.mv (.t 0),none,[]⟩,
   ⟨(some 14),.cmp .geq (.t 13) (.k (.lit .u64 256)),none,[]⟩])
  (.cond (.t 14) (.seq (.ops [⟨(some 15),.mv (.t 0),none,[]⟩,
   ⟨(some 16),.bin .shr .u64 (.t 15) (.k (.lit .u64 8)),none,[]⟩,
   ⟨(some 0),.mv (.t 16),none,[]⟩])
  (.ops [⟨(some 17),.mv (.t 2),none,[]⟩,
   ⟨(some 18),.bin .add .i64 (.t 17) (.k (.lit .i64 8)),none,[]⟩,
   ⟨(some 2),.mv (.t 18),none,[]⟩])) (.skip)))
  (.seq (.ops [⟨(some 19),.mv (.t 2),none,[]⟩,
   ⟨(some 20),.mv (.t 0),none,[]⟩,
   ⟨(some 21),.conv .u8 (.t 20),none,[]⟩,
   ⟨(some 22),.idxS (.k (.str lenTab)) (.t 21),none,[]⟩,
   ⟨(some 23),.conv .i64 (.t 22),none,[]⟩,
   ⟨(some 24),.bin .add .i64 (.t 19) (.t 23),none,[]⟩,
   ⟨(some 2),.mv (.t 24),none,[]⟩])
  (.ret)))))):=rfl
 rw[e1];have hll:vln lenTab=256:=by rw[qln];exact hl
 generalize lenTab=T at *;have d1:vc .geq x 4294967296=false:=by rw[qc,k7];omega
 have d2:vc .geq x 65536=true:=by rw[qc,jP];omega
 have d3:vc .geq (x / 65536) 256=false:=by rw[qc,k7];omega
 have s1:vb .shr .u64 x 16=x / 65536:=by rw[qb];show x.fdiv (2^16)=_;rw[Int.fdiv_eq_ediv_of_nonneg _ (by omega)];rfl
 have w1:vw .u8 (x / 65536)=x / 65536:=by rw[qw];exact wrap_u8 (by omega) (by omega)
 have hk:=key (x / 65536) (by omega) (by omega);generalize hbl:kB x=bl at *;generalize hbl2:kB (x / 65536)=bl2 at *;generalize hx6:x / 65536=x6 at *;cbv;rw[d1];cbv;rw[d2];cbv;rw[s1,d3];cbv;rw[w1,hk];refine⟨⟨?_⟩,?_,trivial⟩
 ·rw[hll];omega
 ·congr 1
  rw[qb,kh (by omega) (by omega)];omega
theorem kmC (x:Int) (hx:0≤x∧x<16777216):Con Try.prog 78 [.int .u64 x] [] (fun v H R=>v=.int .i64 (kB x)∧H=[]∧R=[]):=by
 by_cases h:x<65536
 ·exact kcH x ⟨hx.1,h⟩
 have hc:=kk4 x ⟨by omega,hx.2⟩;refine kw (kl kD koH ?_)
 intro _ _ _ _ _ _ _ _ _ _ _ _ _ _ _ _ _ _ _ _ _ _ _ _ _ _ _ _ _ _ _ _ _ _ _ _ _ _ _ _ _ _ _;have hm:=kD;generalize Try.prog=P at *;generalize kB x=bl at *;cbv;refine ka (ρ:=[]) hc ⟨by rfl,by rfl,by rfl,by cbv⟩ ?_
 rintro v H R js ⟨rfl,rfl,rfl⟩;cbv
def smA (t:List Int):Int:=sm t t.length
def OkE (t l:List Int):Prop:=t.length≤255∧(∀i,i<t.length→t.getD i 0≤11)∧0<smA t∧(∃k:Nat,2^(kB (smA t)).toNat-smA t=2^k∧l=t++[(k:Int)+1])∧∃M,Wt l M
theorem OkE.uniq {t l l':List Int} (h:OkE t l) (h':OkE t l'):l=l':=by
 obtain⟨_,_,_,⟨k,h1,h2⟩,_⟩:=h;obtain⟨_,_,_,⟨k',h3,h4⟩,_⟩:=h';have:k=k':=kgq (h1.symm.trans h3);rw[h2,h4,this]
theorem kk5 {x:Int} (h:0<x):x<2^(kB x).toNat∧2^(kB x).toNat≤2*x:=by
 obtain⟨k,h1,h2,h3⟩:=jA h;have e:(kB x).toNat=k+1:=by omega
 rw[e];refine⟨h3,?_⟩
 rw[Int.pow_succ];omega
theorem kmD {l l':List Int} {n:Nat} (h:∀i,i<n→l.getD i 0=l'.getD i 0):sm l n=sm l' n:=by
 induction n with
 |zero=>rfl
 |succ n ih=>simp only[sm];rw[ih (fun i hi=>h i (by omega)),h n (by omega)]
theorem getD_take {l:List Int} {n i:Nat} (h:i<n):(l.take n).getD i 0=l.getD i 0:=by
 rw[List.getD_eq_getElem?_getD,List.getD_eq_getElem?_getD,List.getElem?_take,if_pos h]
theorem kh5 (l0:List Int) (n cap cc:Nat) (hl:∀c∈l0,kR c) (hn:n≤l0.length) (hcc:cap≤cc) (hlen:n≤1000) :
  Con Try.prog 49 [.slice 0 .z 1 n cap] [.buf 5 .u8 l0 cc] (fun v H R=>R=[0]∧((∃l c',OkE (l0.take n) l∧H=[.buf 5 .u8 l c']∧v=.tup [.slice 0 .z 1 l.length c',.bool true]) ∨
   ((∀l,¬OkE (l0.take n) l)∧∃l' c',H=[.buf 5 .u8 l' c']∧(v=.tup [.val (.slice none 0 0),.bool false]∨∃n',v=.tup [.slice 0 .z 1 n' c',.bool false])))):=by
 have hlen1:=kmC;have htl:(l0.take n).length=n:=by rw[List.length_take];omega
 have hsz:∀(w:Int) (c':Nat) (m:Int),kR w→Msz (l0.take n++[w]) m→Con Try.prog 45 [.slice 0 .z 1 (n+1) c'] [.ro .u8 (l0.take n++[w])] (fun v H R=>v=.int .i64 m∧H=[.ro .u8 (l0.take n++[w])]∧R=[]):=by
  intro w c' m hw hm;have:=kcU (l0.take n++[w]) c' m (fun c hc=>(List.mem_append.1 hc).elim (fun h=>hl c (List.mem_of_mem_take h)) (fun h=>by rw[List.mem_singleton.1 h];exact hw)) (by rw[List.length_append,htl];simp;omega) hm;rw[List.length_append,htl] at this;exact this
 have hex:=fun w=>Msz.ex (l0.take n++[w])
 have hpos:∀w m,Msz (l0.take n++[w]) m→(0<m↔∃M,Wt (l0.take n++[w]) M):=by
  intro w m hm;rcases hm with⟨M,hW,rfl⟩|⟨h,rfl⟩
  ·exact⟨fun _=>⟨M,hW⟩,fun _=>by have:=hW.pos;omega⟩
  ·exact⟨fun h'=>by omega,fun⟨M,h'⟩=>(h M h').elim⟩
 have hsmA:smA (l0.take n)=sm l0 n:=by unfold smA;rw[htl];exact kmD (fun i hi=>getD_take hi)
 have hok:∀l,OkE (l0.take n) l→n≤255∧(∀i,i<n→l0.getD i 0≤11)∧0<sm l0 n∧(∃k:Nat,2^(kB (sm l0 n)).toNat-sm l0 n=2^k∧l=l0.take n++[(k:Int)+1])∧∃M,Wt l M:=by
  intro l h;unfold OkE at h;rw[htl,hsmA] at h;exact⟨h.1,fun i hi=>by have:=h.2.1 i hi;rw[getD_take hi] at this;exact this,h.2.2⟩
 have hko:∀(k M:Nat),n≤255→(∀i,i<n→l0.getD i 0≤11)→0<sm l0 n→2^(kB (sm l0 n)).toNat-sm l0 n=2^k→Wt (l0.take n++[(k:Int)+1]) M→OkE (l0.take n) (l0.take n++[(k:Int)+1]):=by
  intro k M h1 h2 h3 h4 h5;unfold OkE;rw[htl,hsmA];exact⟨h1,fun i hi=>by rw[getD_take hi];exact h2 i hi,h3,⟨k,h4,rfl⟩,M,h5⟩
 have hover:=@kk5;have htl1:∀w:Int,(l0.take n++[w]).length=n+1:=fun w=>by rw[List.length_append,htl];rfl
 refine kw (kV 1 (by simp) (jJ [0] (kl kD koF ?_)))
 intro vb vc vw vtoN vofN vaddN _ _ _ _ vgd _ vln _ vsub vonto _ _ _ _ _ hw qb qc qw qtoN qofN qaddN _ _ _ _ qgd _ qln _ qsub qonto _ _ _ _ _;have hm:=kD;generalize Try.prog=P at *;have hge:=qH hl;have hsr:=fun i=>@kcS l0 i
 have hs0:sm l0 0=0:=rfl;have hss:∀i,sm l0 (i+1)=sm l0 i+pw (l0.getD i 0):=fun _=>rfl
 have hpr:=@kaE;have hpwd:∀w:Int,0≤w→w≤11→vb .shr .u64 (vb .shl .u64 1 w) 1=pw w:=fun w h0 h1=>by rw[qb];exact kjF h0 h1
 have hand:∀s:Int,1≤s→s<2^64→(vb .and .u64 s (s-1)=0↔∃k:Nat,s=2^k):=fun s h0 h1=>by rw[qb];exact kjE h0 h1
 have hbp:=kcT;have hbr:∀x:Int,0≤x→x<2^20→0≤kB x∧kB x≤20:=fun x h0 h1=>kaW (n:=20) h0 h1
 generalize sm l0=SM at *;generalize pw=PW at *;generalize kB=BL at *;generalize hTK:l0.take n=TK at *;generalize OkE TK=OK at *;generalize hl0:l0.length=nl at *;have hto:∀i:Nat,vtoN (i:Int)=i:=fun i=>by simp only[qtoN,Int.toNat_natCast]
 have hadd0:∀i,vaddN 0 i=i:=fun i=>by simp only[qaddN,Nat.zero_add]
 have hvln:vln l0=nl:=by simp only[qln,hl0]
 have hvgd:∀i,vgd l0 i=l0.getD i 0:=fun i=>by simp only[qgd]
 obtain⟨nI,hnI⟩:∃nI:Int,nI=n:=⟨_,rfl⟩;have en:vofN n=nI:=by rw[hnI,qofN]
 cbv;simp only[nc] at *;rw[en];refine kv (α:=Int×Int) ([6]++[12,13,14,15,16,17,18,19,20,21,22]) [0] (fun(k,s)=>[(11,.int .i64 k),(4,.int .u64 s)]) (fun _=>[])
  (fun(k,s)=>∃i:Nat,k=i∧i≤n∧s=SM i∧∀j,j<i→l0.getD j 0≤11) (fun(k,_)=>n-k.toNat) hw hm ?_ ?_
 ·refine Cv.genAt [11,4] [] (Cv.fold ([6]++[12,13,14,15,16,17,18,19,20,21,22]) 1 [0] (by exact Nat.le_refl _) (by exact Nat.le_of_ble_eq_true rfl) (by rfl) (by cbv) ?_)
  intro js;refine⟨(_,_),?_,js,rfl⟩
  exact⟨0,rfl,by((try simp only[nc] at *);omega),hs0.symm,fun j hj=>by((try simp only[nc] at *);omega)⟩
 ·rintro⟨k,s⟩ js ⟨i,hk,hi,hs,hj⟩;have hsi:=hsr i hj;cbv;generalize hz4:vc .lss k nI=z4;cases z4
  rotate_left
  ·rw[qc,ko] at hz4;have hlt:i<n:=by((try simp only[nc] at *);omega)
   have hti:vtoN k=i:=by rw[hk];exact hto i
   have hinR:0≤k∧k<(n:Int):=by((try simp only[nc] at *);omega)
   obtain⟨k1,hk1⟩:∃k1:Int,k1=((i+1:Nat):Int):=⟨_,rfl⟩;have ek:vb .add .i64 k 1=k1:=by rw[qb,kh (by((try simp only[nc] at *);omega)) (by((try simp only[nc] at *);omega))];((try simp only[nc] at *);omega)
   have hmu:∀_:Unit,n-k1.toNat<n-k.toNat:=fun _=>by((try simp only[nc] at *);omega)
   have hx:=hge i;have hss1:=hss i;have hlt2:i<nl:=by((try simp only[nc] at *);omega)
   cbv;rw[hti,hadd0,hvgd,hvln];refine⟨⟨hinR⟩,⟨hlt2⟩,⟨hlt2⟩,?_⟩
   generalize hxi:l0.getD i 0=x at *;generalize hz5:vc .gtr x 11=z5;cases z5
   rotate_left
   ·rw[qc,kC] at hz5;cbv;exact .inr ⟨fun l h=>by have:=(hok l h).2.1 i hlt;rw[hxi] at this;((try simp only[nc] at *);omega),l0,cc,rfl,.inl rfl⟩
   rw[qc,kx] at hz5;have hpx:=hpr (w:=x) (by((try simp only[nc] at *);omega));have hpw:=hpwd x (by((try simp only[nc] at *);omega)) (by((try simp only[nc] at *);omega));obtain⟨s1,hs1⟩:∃s1,s1=SM (i+1):=⟨_,rfl⟩;have es:vb .add .u64 s (PW x)=s1:=by
    rw[qb,hs1,hss1,←hs];exact wrap_u64 (by((try simp only[nc] at *);omega)) (by((try simp only[nc] at *);omega))
   have hjj:∀j,j<i+1→l0.getD j 0≤11:=fun j hj2=>by
    by_cases e:j=i
    ·subst e;((try simp only[nc] at *);omega)
    ·exact hj j (by((try simp only[nc] at *);omega))
   cbv;rw[hpw,es,ek];refine⟨⟨by((try simp only[nc] at *);omega)⟩,?_⟩
   refine Cv.fold ([6]++[12,13,14,15,16,17,18,19,20,21,22]) 1 [0] (by exact Nat.le_refl _) (by exact Nat.le_of_ble_eq_true rfl) (by rfl) (by cbv) ?_
   intro js;refine⟨(_,_),?_,js,rfl⟩
   exact⟨⟨i+1,hk1,hlt,hs1,hjj⟩,hmu ()⟩
  ·rw[qc,kb] at hz4;obtain rfl:i=n:=by((try simp only[nc] at *);omega)
   cbv;generalize hz5:vc .eql s 0=z5;cases z5
   rotate_left
   ·rw[qc,kJ] at hz5;cbv;exact .inr ⟨fun l h=>by have:=(hok l h).2.2.1;((try simp only[nc] at *);omega),l0,cc,rfl,.inl rfl⟩
   rw[qc,ky] at hz5;cbv;rw[en];generalize hz6:vc .gtr nI 255=z6;cases z6
   rotate_left
   ·rw[qc,kC] at hz6;cbv;exact .inr ⟨fun l h=>by have:=(hok l h).1;((try simp only[nc] at *);omega),l0,cc,rfl,.inl rfl⟩
   rw[qc,kx] at hz6;have hs18:0<s∧s≤262144:=by((try simp only[nc] at *);omega)
   obtain⟨ho1,ho2⟩:=hover hs18.1;have hc1:=hlen1 s ⟨by((try simp only[nc] at *);omega),by((try simp only[nc] at *);omega)⟩;obtain⟨K,hK⟩:∃K:Nat,K=(BL s).toNat:=⟨_,rfl⟩;rw[←hK] at ho1 ho2;obtain⟨bI,hbI⟩:∃bI:Int,bI=BL s:=⟨_,rfl⟩;rw[←hbI] at hc1 hK;have hbI2:=hbr s (by((try simp only[nc] at *);omega)) (by((try simp only[nc] at *);omega));rw[←hbI] at hbI2;have hKb:(K:Int)=bI:=by((try simp only[nc] at *);omega)
   have hpK20:(2:Int)^K≤2^20:=qY (by((try simp only[nc] at *);omega));obtain⟨pK,hpK⟩:∃pK:Int,pK=2^K:=⟨_,rfl⟩;rw[←hpK] at ho1 ho2 hpK20;have ewb:vw .u64 bI=bI:=by rw[qw];exact wrap_u64 (by((try simp only[nc] at *);omega)) (by((try simp only[nc] at *);omega))
   have hbits:(2:Int)^(IntKind.u64).bits=18446744073709551616:=by decide
   have esl:vb .shl .u64 1 bI=pK:=by
    have e:1*2^bI.toNat=pK:=by rw[←hK,hpK,Int.one_mul]
    rw[qb,keC rfl (by decide) (by show bI≤64;((try simp only[nc] at *);omega)) (by rw[e,hbits];((try simp only[nc] at *);omega)),e]
   obtain⟨re,hre⟩:∃re:Int,re=pK-s:=⟨_,rfl⟩;have esb:vb .sub .u64 pK s=re:=by rw[qb,hre];exact wrap_u64 (by((try simp only[nc] at *);omega)) (by((try simp only[nc] at *);omega))
   obtain⟨re1,hre1⟩:∃re1:Int,re1=re-1:=⟨_,rfl⟩;have esb1:vb .sub .u64 re 1=re1:=by rw[qb,hre1];exact wrap_u64 (by((try simp only[nc] at *);omega)) (by((try simp only[nc] at *);omega))
   have hands:=hand re (by((try simp only[nc] at *);omega)) (by((try simp only[nc] at *);omega));rw[←hre1] at hands;obtain⟨an,han⟩:∃an,an=vb .and .u64 re re1:=⟨_,rfl⟩;rw[←han] at hands;cbv;refine ka (ρ:=[]) hc1 ⟨by rfl,by rfl,by rfl,by cbv⟩ ?_
   rintro v H R js2 ⟨rfl,rfl,rfl⟩;cbv;rw[ewb,esl,esb];refine⟨⟨by((try simp only[nc] at *);omega)⟩,?_⟩
   rw[esb1,←han];generalize hz7:vc .neq an 0=z7;cases z7
   rotate_left
   ·rw[qc,kaw] at hz7;cbv;exact .inr ⟨fun l h=>by
     obtain⟨_,_,_,⟨k,h4,_⟩,_⟩:=hok l h;refine hz7 (hands.2 ⟨k,?_⟩)
     rw[hre,hpK,hK,hbI,hs];exact h4,l0,cc,rfl,.inl rfl⟩
   rw[qc,kax] at hz7;obtain⟨kk,hkk⟩:=hands.1 (Classical.not_not.1 hz7);have hkb:BL re=kk+1:=by rw[hkk];exact hbp kk
   have hkr:=hbr re (by((try simp only[nc] at *);omega)) (by((try simp only[nc] at *);omega));have hc2:=hlen1 re ⟨by((try simp only[nc] at *);omega),by((try simp only[nc] at *);omega)⟩;obtain⟨w,hw1⟩:∃w:Int,w=(kk:Int)+1:=⟨_,rfl⟩;rw[hkb,←hw1] at hc2;have hw8:kR w:=by unfold kR;((try simp only[nc] at *);omega)
   have eww:vw .u8 w=w:=by rw[qw];exact wrap_u8 (by have:=hw8.1;((try simp only[nc] at *);omega)) (by have:=hw8.2;((try simp only[nc] at *);omega))
   obtain⟨m,hm0⟩:=hex w;have hszw:=fun c'=>hsz w c' m hw8 hm0
   have hposw:=hpos w m hm0;have hkow:=fun M h=>hko kk M (by((try simp only[nc] at *);omega)) hj (by((try simp only[nc] at *);omega)) (by rw[←hs,←hbI,←hK,←hpK,←hre];exact hkk) h
   rw[←hw1] at hkow;have hoku:∀l,OK l→l=TK++[w]∧0<m:=fun l h=>by
    obtain⟨_,_,_,⟨k',h4,h5⟩,M,h6⟩:=hok l h;have:k'=kk:=by
     have h7:(2:Int)^k'=2^kk:=by rw[←h4,←hkk,hre,hpK,hK,hbI,hs]
     exact kgq h7
    subst this;rw[←hw1] at h5;subst h5;exact⟨rfl,hposw.2 ⟨M,h6⟩⟩
   obtain⟨L2,hL2⟩:∃L2,L2=TK++[w]:=⟨_,rfl⟩;have hont:vonto l0 i (vsub [w] 0 1)=L2:=by rw[hL2,←hTK,qsub,qonto];rfl
   have hL2n:L2.length=i+1:=by rw[hL2];exact htl1 w
   rw[←hL2] at hszw hposw hkow hoku;have hadd1:vaddN i 1=i+1:=by rw[qaddN]
   obtain⟨i1,hi1⟩:∃i1,i1=i+1:=⟨_,rfl⟩;rw[←hi1] at hszw hadd1 hL2n;have hln1:vln [w]=1:=by rw[qln];rfl
   have hi1b:i1*1≤140737488355328:=by omega
   cbv;refine ka (ρ:=[]) hc2 ⟨by rfl,by rfl,by rfl,by cbv⟩ ?_
   rintro v H R js3 ⟨rfl,rfl,rfl⟩;cbv;rw[eww];refine⟨⟨by rw[hadd0,hln1];exact Nat.le_refl _⟩,⟨by rw[hvln];exact hn⟩,⟨hcc⟩,⟨by rw[hadd1];exact hi1b⟩,?_⟩
   intro c1 js4 hle;cbv;rw[hont,hadd1];refine ka (ρ:=[(0,.z)]) (hszw c1) ⟨by rfl,by rfl,by rfl,by cbv;exact⟨kd _,trivial⟩⟩ ?_
   rintro v H R js5 ⟨rfl,rfl,rfl⟩;cbv;generalize hz8:vc .gtr m 0=z8;cases z8
   ·rw[qc,kx] at hz8;exact .inr ⟨fun l h=>hz8 (hoku l h).2,L2,c1,rfl,.inr ⟨i1,rfl⟩⟩
   ·rw[qc,kC] at hz8;obtain⟨M,hM⟩:=hposw.1 hz8;subst hL2n;exact .inl ⟨L2,c1,hkow M hM,rfl,rfl⟩
theorem Msz.refs {l:List Int} {m:Int} (hl:∀c∈l,kR c) (hm:Msz l m) (h1:2≤l.length) (h2:l.length≤256) (h3:l.getD (l.length-1) 0≠0) (h4:∀i,i<l.length→l.getD i 0≤11) :
  (∀K:Nat,K≤11→sm l l.length=2^K→2≤on l l.length→m=K)∧((∀K:Nat,1≤K→K≤11→sm l l.length=2^K→¬2≤on l l.length)→m=0):=by
 constructor
 ·intro K hK hs ho;rcases hm with⟨M,hW,rfl⟩|⟨hn,rfl⟩
  ·have:=hW.2.2.2.2.2.1;rw[hs] at this;have:=kgq this;omega
  ·exact(hn K ⟨h1,h2,h3,h4,ho,hs,hK⟩).elim
 ·intro h;rcases hm with⟨M,hW,rfl⟩|⟨hn,rfl⟩
  ·exact(h M hW.pos hW.2.2.2.2.2.2 hW.2.2.2.2.2.1 hW.2.2.2.2.1).elim
  ·rfl
theorem kcV (l:List Int) (cap:Nat) (m:Int) (hl:∀c∈l,kR c) (hlen:l.length≤140737488355328) (hm0:Msz l m) :
  Con Try.prog 18 [.slice 0 .z 1 l.length cap] [.ro .u8 l] (fun v H R=>v=.int .i64 m∧H=[.ro .u8 l]∧R=[]):=by
 refine kw (kV 1 (by simp) (kH (kl kD ko3 ?_)))
 intro vb vc vw vtoN vofN vaddN _ _ _ _ vgd _ vln _ _ _ _ _ _ _ _ hw qb qc qw qtoN qofN qaddN _ _ _ _ qgd _ qln _ _ _ _ _ _ _ _;have hm:=kD;generalize Try.prog=P at *;have hends:=hm0.refs hl;have hnone:=hm0.none;have hge:=qH hl;have hsr:=fun i=>@kcS l i
 have hor:=keW l;have hs0:sm l 0=0:=rfl;have ho0:on l 0=0:=rfl;have hss:∀i,sm l (i+1)=sm l i+pw (l.getD i 0):=fun _=>rfl
 have hosu:∀i,on l (i+1)=on l i+(if l.getD i 0=1 then 1 else 0):=fun _=>rfl
 have hpr:=@kaE;have hpz:∀w:Int,w≤0→pw w=0:=fun w h=>by unfold pw;rw[if_pos h]
 have hpwd:∀w:Int,0<w→w≤11→vb .shl .i64 1 (w-1)=pw w:=fun w h0 h1=>by rw[qb,qK (by omega) (by omega)];unfold pw;rw[if_neg (by omega)]
 clear hm0;generalize sm l=SM at *;generalize on l=ON at *;generalize pw=PW at *;generalize hn:l.length=n at *;have hto:∀i:Nat,vtoN (i:Int)=i:=fun i=>by simp only[qtoN,Int.toNat_natCast]
 have hadd0:∀i,vaddN 0 i=i:=fun i=>by simp only[qaddN,Nat.zero_add]
 have hvln:vln l=n:=by simp only[qln,hn]
 have hvgd:∀i,vgd l i=l.getD i 0:=fun i=>by simp only[qgd]
 obtain⟨nI,hnI⟩:∃nI:Int,nI=n:=⟨_,rfl⟩;have en:vofN n=nI:=by rw[hnI,qofN]
 cbv;simp only[nc] at *;rw[en];generalize hz1:vc .lss nI 2=z1;cases z1
 rotate_left
 ·rw[qc,ko] at hz1;cbv;have:=hnone (.inl (by((try simp only[nc] at *);omega)));subst this;exact⟨rfl,trivial⟩
 rw[qc,kb] at hz1;cbv;rw[en];generalize hz2:vc .gtr nI 256=z2;cases z2
 rotate_left
 ·rw[qc,kC] at hz2;cbv;have:=hnone (.inr (.inl (by((try simp only[nc] at *);omega))));subst this;exact⟨rfl,trivial⟩
 rw[qc,kx] at hz2;obtain⟨nm,hnm⟩:∃nm:Int,nm=((n-1:Nat):Int):=⟨_,rfl⟩;have enm:vb .sub .i64 nI 1=nm:=by rw[qb,ku (by((try simp only[nc] at *);omega)) (by((try simp only[nc] at *);omega))];((try simp only[nc] at *);omega)
 have htm:vtoN nm=n-1:=by rw[hnm];exact hto _
 cbv;rw[en,enm,htm,hadd0,hvgd,hvln];refine⟨⟨by((try simp only[nc] at *);omega)⟩,⟨by((try simp only[nc] at *);omega)⟩,⟨by((try simp only[nc] at *);omega)⟩,?_⟩
 generalize hz3:vc .eql (l.getD (n-1) 0) 0=z3;cases z3
 rotate_left
 ·rw[qc,kJ] at hz3;cbv;have:=hnone (.inr (.inr (.inl hz3)));subst this;exact⟨rfl,trivial⟩
 rw[qc,ky] at hz3;have hends:=hends (by((try simp only[nc] at *);omega)) (by((try simp only[nc] at *);omega)) hz3;cbv;refine kv (α:=Int×Int×Int) [24,25,26,27,28,29,30,31,32,33,34,35,36,37,38,39,40,41,42,43,44,45,46,47,48,49,50,51,52,53,54,55] [] (fun(k,s,o)=>[(5,.int .i64 k),(3,.int .i64 s),(4,.int .i64 o)]) (fun _=>[])
  (fun(k,s,o)=>∃i:Nat,k=i∧i≤n∧s=SM i∧o=ON i∧∀j,j<i→l.getD j 0≤11) (fun(k,_)=>n-k.toNat) hw hm ?_ ?_
 ·refine Cv.genAt [5,3,4] [] (Cv.fold [24,25,26,27,28,29,30,31,32,33,34,35,36,37,38,39,40,41,42,43,44,45,46,47,48,49,50,51,52,53,54,55] 1 [] (by exact Nat.le_refl _) (by exact Nat.le_of_ble_eq_true rfl) (by rfl) (by cbv) ?_)
  intro js;refine⟨(_,_,_),?_,js,rfl⟩
  exact⟨0,rfl,by((try simp only[nc] at *);omega),hs0.symm,ho0.symm,fun j hj=>by((try simp only[nc] at *);omega)⟩
 ·rintro⟨k,s,o⟩ js ⟨i,hk,hi,hs,ho,hj⟩;have hsi:=hsr i hj;have hoi:=hor i;cbv;rw[en];generalize hz4:vc .lss k nI=z4;cases z4
  rotate_left
  ·rw[qc,ko] at hz4;have hlt:i<n:=by((try simp only[nc] at *);omega)
   have hti:vtoN k=i:=by rw[hk];exact hto i
   have hinR:0≤k∧k<(n:Int):=by((try simp only[nc] at *);omega)
   obtain⟨k1,hk1⟩:∃k1:Int,k1=((i+1:Nat):Int):=⟨_,rfl⟩;have ek:vb .add .i64 k 1=k1:=by rw[qb,kh (by((try simp only[nc] at *);omega)) (by((try simp only[nc] at *);omega))];((try simp only[nc] at *);omega)
   have hmu:∀_:Unit,n-k1.toNat<n-k.toNat:=fun _=>by((try simp only[nc] at *);omega)
   have hx:=hge i;have hss1:=hss i;have hos1:=hosu i;cbv;rw[hti,hadd0,hvgd,hvln];refine⟨⟨hinR⟩,⟨hlt⟩,⟨hlt⟩,?_⟩
   generalize hxi:l.getD i 0=x at *;generalize hz5:vc .gtr x 11=z5;cases z5
   rotate_left
   ·rw[qc,kC] at hz5;cbv;have:=hnone (.inr (.inr (.inr ⟨i,hlt,by((try simp only[nc] at *);omega)⟩)));subst this;exact⟨rfl,trivial⟩
   rw[qc,kx] at hz5;have hpx:=hpr (w:=x) (by((try simp only[nc] at *);omega));have hpz1:=hpz x;have hpw:=hpwd x;obtain⟨s1,hs1⟩:∃s1,s1=SM (i+1):=⟨_,rfl⟩;have es:vb .add .i64 s (PW x)=s1:=by
    rw[qb,hs1,hss1,←hs];exact wrap_i64 (by((try simp only[nc] at *);omega)) (by((try simp only[nc] at *);omega))
   have hjj:∀j,j<i+1→l.getD j 0≤11:=fun j hj2=>by
    by_cases e:j=i
    ·subst e;((try simp only[nc] at *);omega)
    ·exact hj j (by((try simp only[nc] at *);omega))
   cbv;rw[hti,hadd0,hvgd,hvln,hxi];refine⟨⟨hinR⟩,⟨hlt⟩,⟨hlt⟩,?_⟩
   generalize hz7:vc .gtr x 0=z7;have eo:vb .add .i64 o 1=o+1:=by rw[qb,kh (by((try simp only[nc] at *);omega)) (by((try simp only[nc] at *);omega))]
   obtain⟨o1,ho1⟩:∃o1,o1=o+1:=⟨_,rfl⟩;rw[←ho1] at eo;cases z7
   ·rw[qc,kx] at hz7;have hx0:x=0:=by((try simp only[nc] at *);omega)
    have hs1s:s=s1:=by rw[hs1,hss1,hpz1 (by((try simp only[nc] at *);omega)),hs];((try simp only[nc] at *);omega)
    rw[if_neg (by((try simp only[nc] at *);omega))] at hos1;have e01:vc .eql x 1=false:=by rw[qc,ky];((try simp only[nc] at *);omega)
    cbv;rw[hti,hadd0,hvgd,hvln,hxi,e01];refine⟨⟨hinR⟩,⟨hlt⟩,⟨hlt⟩,?_⟩
    cbv;rw[ek];refine Cv.fold [24,25,26,27,28,29,30,31,32,33,34,35,36,37,38,39,40,41,42,43,44,45,46,47,48,49,50,51,52,53,54,55] 1 [] (by exact Nat.le_refl _) (by exact Nat.le_of_ble_eq_true rfl) (by rfl) (by cbv) ?_
    intro js;refine⟨(_,_,_),?_,js,rfl⟩
    exact⟨⟨i+1,hk1,hlt,hs1s.trans hs1,by((try simp only[nc] at *);omega),hjj⟩,hmu ()⟩
   rw[qc,kC] at hz7;have esb:vb .sub .u8 x 1=x-1:=by rw[qb];exact wrap_u8 (by((try simp only[nc] at *);omega)) (by((try simp only[nc] at *);omega))
   have ewx:vw .u64 (x-1)=x-1:=by rw[qw];exact wrap_u64 (by((try simp only[nc] at *);omega)) (by((try simp only[nc] at *);omega))
   have hpw:=hpw hz7 (by((try simp only[nc] at *);omega));obtain⟨xm,hxm⟩:∃xm,xm=x-1:=⟨_,rfl⟩;rw[←hxm] at esb ewx hpw;cbv;rw[hti,hadd0,hvgd,hvln,hxi,esb,ewx,hpw,es];refine⟨⟨hinR⟩,⟨hlt⟩,⟨hlt⟩,⟨by((try simp only[nc] at *);omega)⟩,⟨hinR⟩,⟨hlt⟩,⟨hlt⟩,?_⟩
   generalize hz6:vc .eql x 1=z6;cases z6
   ·rw[qc,ky] at hz6;rw[if_neg hz6] at hos1;cbv;rw[ek];refine Cv.fold [24,25,26,27,28,29,30,31,32,33,34,35,36,37,38,39,40,41,42,43,44,45,46,47,48,49,50,51,52,53,54,55] 1 [] (by exact Nat.le_refl _) (by exact Nat.le_of_ble_eq_true rfl) (by rfl) (by cbv) ?_
    intro js;refine⟨(_,_,_),?_,js,rfl⟩
    exact⟨⟨i+1,hk1,hlt,hs1,by((try simp only[nc] at *);omega),hjj⟩,hmu ()⟩
   ·rw[qc,kJ] at hz6;rw[if_pos hz6] at hos1;cbv;rw[ek,eo];refine Cv.fold [24,25,26,27,28,29,30,31,32,33,34,35,36,37,38,39,40,41,42,43,44,45,46,47,48,49,50,51,52,53,54,55] 1 [] (by exact Nat.le_refl _) (by exact Nat.le_of_ble_eq_true rfl) (by rfl) (by cbv) ?_
    intro js;refine⟨(_,_,_),?_,js,rfl⟩
    exact⟨⟨i+1,hk1,hlt,hs1,by((try simp only[nc] at *);omega),hjj⟩,hmu ()⟩
  ·rw[qc,kb] at hz4;obtain rfl:i=n:=by((try simp only[nc] at *);omega)
   obtain⟨he1,he2⟩:=hends (fun j h=>hj j h);rw[←hs,←ho] at he1 he2;clear hends hnone;cbv;refine kv (α:=Int) [56,57,58,59,60,61,62,63,64,65,66,67,68,69] [] (fun q=>[(6,.int .i64 q)]) (fun _=>[])
    (fun q=>∃K:Nat,q=K∧1≤K∧K≤12∧∀K':Nat,1≤K'→K'<K→s=2^K'→¬2≤o) (fun q=>12-q.toNat) hw hm ?_ ?_
   ·refine Cv.genAt [6] [] (Cv.fold [56,57,58,59,60,61,62,63,64,65,66,67,68,69] 1 [] (by exact Nat.le_refl _) (by exact Nat.le_of_ble_eq_true rfl) (by rfl) (by cbv) ?_)
    intro js;refine⟨_,?_,js,rfl⟩
    exact⟨1,rfl,by omega,by omega,fun K' h1 h2=>by omega⟩
   ·rintro q js2 ⟨K,hq,hK1,hK2,hKs⟩;obtain⟨q1,hq1⟩:∃q1:Int,q1=((K+1:Nat):Int):=⟨_,rfl⟩;have eq1:vb .add .i64 q 1=q1:=by rw[qb,kh (by((try simp only[nc] at *);omega)) (by((try simp only[nc] at *);omega))];((try simp only[nc] at *);omega)
    have hmu:∀_:Unit,K<12→12-q1.toNat<12-q.toNat:=fun _=>by((try simp only[nc] at *);omega)
    have ewq:vw .u64 q=q:=by rw[qw];exact wrap_u64 (by((try simp only[nc] at *);omega)) (by((try simp only[nc] at *);omega))
    obtain⟨pq,hpq⟩:∃pq:Int,pq=2^K:=⟨_,rfl⟩;have ehl:vb .shl .i64 1 q=pq:=by rw[qb,hq,qK (by omega) (by omega),hpq];rfl
    have hq0:0≤q:=by((try simp only[nc] at *);omega)
    have hKs1:¬(s=pq∧2≤o)→∀K':Nat,1≤K'→K'<K+1→s=2^K'→¬2≤o:=fun h K' h1 h2 h3 h4=>by
     by_cases e:K'=K
     ·subst e;exact h ⟨by rw[hpq];exact h3,h4⟩
     ·exact hKs K' h1 (by omega) h3 h4
    cbv;generalize hz5:vc .leq q 11=z5;cases z5
    ·rw[qc,kaz] at hz5;have:=he2 (fun K' h1 h2=>hKs K' h1 (by((try simp only[nc] at *);omega)));subst this;cbv
    rw[qc,kay] at hz5;have hK11:K≤11:=by((try simp only[nc] at *);omega)
    cbv;rw[ewq,ehl];refine⟨⟨hq0⟩,?_⟩
    generalize hz6:vc .eql s pq=z6;cases z6
    ·rw[qc,ky] at hz6;cbv;rw[eq1];refine Cv.fold [56,57,58,59,60,61,62,63,64,65,66,67,68,69] 1 [] (by exact Nat.le_refl _) (by exact Nat.le_of_ble_eq_true rfl) (by rfl) (by cbv) ?_
     intro js;refine⟨_,?_,js,rfl⟩
     exact⟨⟨K+1,hq1,by omega,by omega,hKs1 (fun h=>hz6 h.1)⟩,hmu () (by omega)⟩
    rw[qc,kJ] at hz6;cbv;generalize hz7:vc .geq o 2=z7;cases z7
    ·rw[qc,k7] at hz7;cbv;rw[eq1];refine Cv.fold [56,57,58,59,60,61,62,63,64,65,66,67,68,69] 1 [] (by exact Nat.le_refl _) (by exact Nat.le_of_ble_eq_true rfl) (by rfl) (by cbv) ?_
     intro js;refine⟨_,?_,js,rfl⟩
     exact⟨⟨K+1,hq1,by omega,by omega,hKs1 (fun h=>hz7 h.2)⟩,hmu () (by omega)⟩
    rw[qc,jP] at hz7;have:=he1 K hK11 (by rw[hz6,hpq]) hz7;have hmq:m=q:=by rw[this,hq]
    subst hmq;cbv
theorem OkE.bound {t l:List Int} (h:OkE t l):smA t≤2048∧∃k:Nat,k≤10∧2^(kB (smA t)).toNat-smA t=2^k∧l=t++[(k:Int)+1]:=by
 obtain⟨h1,h2,h3,⟨k,h4,rfl⟩,M,hW⟩:=h;have hl:(t++[(k:Int)+1]).length=t.length+1:=by simp
 have hg:(t++[(k:Int)+1]).getD t.length 0=(k:Int)+1:=by simp[List.getD_eq_getElem?_getD]
 have h5:=hW.2.2.2.1 t.length (by omega);rw[hg] at h5;have h6:=hW.2.2.2.2.2.1;rw[hl] at h6;simp only[sm] at h6;have h7:sm (t++[(k:Int)+1]) t.length=smA t:=kmD (fun i hi=>by rw[List.getD_eq_getElem?_getD,List.getElem?_append_left hi,←List.getD_eq_getElem?_getD]);have h8:=kaE (w:=(t++[(k:Int)+1]).getD t.length 0) (by rw[hg];omega);have h9:(2:Int)^M≤2^11:=qY hW.2.2.2.2.2.2;exact⟨by omega,k,by omega,h4,rfl⟩
def byS (A B C:Nat→Int) (b:List Int):Nat→Int→Int→Int→List Int→Option (List Int)
 |0,_,_,_,_=>none
 |f+1,a,o,p,l=>if p-B a.toNat<0 then some (l++[A a.toNat]++[A o.toNat]) else byS A B C b f o (C a.toNat+rd b p (B a.toNat).toNat) (p-B a.toNat) (l++[A a.toNat])
def bst (F:Nat) (b:List Int):Option (List Int):=
 match kb1 b 6 11 with
 | (cs,log,used,e)=>if e≠0 then none else if ¬jc cs log then none else if (b.drop used.toNat).getLastD 0=0 then none
  else if qT (b.drop used.toNat)-log-log<0 then none
  else byS (jf cs (2^log.toNat)) (qn cs log (2^log.toNat) (2^log.toNat:Int).toNat) (qa cs log (2^log.toNat) (2^log.toNat:Int).toNat) (b.drop used.toNat) F
   (rd (b.drop used.toNat) (qT (b.drop used.toNat)) log.toNat) (rd (b.drop used.toNat) (qT (b.drop used.toNat)-log) log.toNat) (qT (b.drop used.toNat)-log-log) []
theorem kmE {A B C:Nat→Int} {b:List Int} (hA:∀k,kR (A k)):∀(F:Nat) (a o p:Int) (l L:List Int),(∀c∈l,kR c)→byS A B C b F a o p l=some L→(∀c∈L,kR c)∧L.length≤l.length+F+1
 |0,a,o,p,l,L,hl,h=>by simp[byS] at h
 | f+1,a,o,p,l,L,hl,h=>by
  have hl1:∀c∈l++[A a.toNat],kR c:=fun c hc=>(List.mem_append.1 hc).elim (hl c) (fun e=>by rw[List.mem_singleton.1 e];exact hA _)
  simp only[byS] at h;split at h
  ·rw[Option.some.injEq] at h;subst h;refine⟨fun c hc=>(List.mem_append.1 hc).elim (hl1 c) (fun e=>by rw[List.mem_singleton.1 e];exact hA _),?_⟩
   simp
  ·have:=kmE hA f _ _ _ _ L hl1 h;refine⟨this.1,?_⟩
   have h2:=this.2;rw[List.length_append] at h2;simp at h2
   omega
theorem kjO {cs:List Int} {log:Int} (hR:jc cs log) (size:Int) (k:Nat):kR (jf cs size k):=by
 have h:=kce (l:=cs) size (by have:=hR.2.2.1;omega) k;have:=hR.2.2.2.1;unfold kR;omega
theorem kgu {F:Nat} {b L:List Int} (h:bst F b=some L):(∀c∈L,kR c)∧L.length≤F+1:=by
 unfold bst at h;generalize hRR:kb1 b 6 11=r at h;obtain⟨cs,log,used,e⟩:=r;simp only at h
 split at h
 ·cases h
 split at h
 ·cases h
 rename_i hR;split at h
 ·cases h
 split at h
 ·cases h
 have:=kmE (kjO (Decidable.not_not.1 hR) _) F _ _ _ _ L (by simp) h;simpa using this
theorem kh6 {b:List Int} (hby:∀x∈b,isByte x) (u:Nat):∀x∈b.drop u,isByte x:=fun x hx=>hby x (List.mem_of_mem_drop hx)
theorem ki7 (b:List Int) (u cap:Nat) (hu:u≤b.length) (hc:b.length≤cap):kiO (if cap=u then 0 else 0+u) (b.drop u) b:=by
 refine⟨?_,fun i hi=>?_⟩
 ·rw[List.length_drop];split<;>omega
 ·rw[List.length_drop] at hi;rw[if_neg (by omega)];rw[List.getD_eq_getElem?_getD,List.getD_eq_getElem?_getD,List.getElem?_drop,Nat.zero_add]
theorem kcW (b:List Int) (cap:Nat) (hby:∀x∈b,isByte x) (hl:b.length≤1000000) (hcap:b.length≤cap) :
  Con Try.prog 48 [.slice 0 .z 1 b.length cap] [.ro .u8 b] (fun v H R=>R=[]∧((bst 256 b=none∧H=[.ro .u8 b]∧v=.tup [.val (.slice none 0 0),.bool false]) ∨
   ∃L c',bst 256 b=some L∧H=[.ro .u8 b,.buf 5 .u8 L c']∧v=.tup [.slice 1 .z 1 L.length c',.bool true])):=by
 obtain⟨⟨cs,log,used,e⟩,hRR⟩:∃r,kb1 b 6 11=r:=⟨_,rfl⟩;have hres:bst 256 b=(if e≠0 then none else if ¬jc cs log then none else if (b.drop used.toNat).getLastD 0=0 then none
  else if qT (b.drop used.toNat)-log-log<0 then none
  else byS (jf cs (2^log.toNat)) (qn cs log (2^log.toNat) (2^log.toNat:Int).toNat) (qa cs log (2^log.toNat) (2^log.toNat:Int).toNat) (b.drop used.toNat) 256
   (rd (b.drop used.toNat) (qT (b.drop used.toNat)) log.toNat) (rd (b.drop used.toNat) (qT (b.drop used.toNat)-log) log.toNat) (qT (b.drop used.toNat)-log-log) []):=by
  unfold bst;rw[hRR]
 by_cases he:e≠0
 ·have h1:=kmp b cap 6 11 hby (by omega) (by omega) (by omega) cs log used e hRR he;rw[if_pos he] at hres;refine kw (ju (kH (kl kD km7 ?_)))
  intro vb vc vw vtoN vofN vaddN vsubN vmaxI vminI vcutN vgd vst vln vrep vsub vonto vsplice vstrEq vbyteV vnotB veqB hw qb qc qw qtoN qofN qaddN qsubN qmaxI qminI qcutN qgd qst qln qrep qsub qonto qsplice qstrEq qbyteV qnotB qeqB;have hm:=kD;generalize Try.prog=P at *;generalize b.length=bl at *;generalize bst 256 b=RES at *;have hz:vc .neq e 0=true:=by rw[qc,kaw];exact he
  cbv;refine ka (ρ:=[(0,.z)]) h1 ⟨by rfl,by rfl,by rfl,by cbv;exact⟨kd _,trivial⟩⟩ ?_
  rintro v H R js ⟨rfl,rfl,rfl⟩;cbv;rw[hz];cbv;exact⟨[0],.tup [.val (.slice none 0 0),.bool false],[.ro .u8 b],rfl,rfl,rfl,rfl,⟨rfl,trivial⟩,rfl,.inl ⟨hres,rfl,rfl⟩⟩
 have he0:e=0:=Decidable.not_not.1 he;subst he0;rw[if_neg he] at hres;clear he;have h1:=knm b cap 6 11 hby (by omega) (by omega) (by omega) cs log used hRR;obtain⟨hcs,hu0,hu1,hlg0,hlg1⟩:=kmq hRR;by_cases hR:jc cs log
 rotate_left
 ·have h2:=fun c=>kkW cs log c hcs (by omega) hR
  rw[if_pos hR] at hres;refine kw (ju (kH (kl kD km7 ?_)))
  intro vb vc vw vtoN vofN vaddN vsubN vmaxI vminI vcutN vgd vst vln vrep vsub vonto vsplice vstrEq vbyteV vnotB veqB hw qb qc qw qtoN qofN qaddN qsubN qmaxI qminI qcutN qgd qst qln qrep qsub qonto qsplice qstrEq qbyteV qnotB qeqB;have hm:=kD;generalize Try.prog=P at *;generalize b.length=bl at *;generalize cs.length=cl at *;generalize bst 256 b=RES at *;have h00:vc .neq 0 0=false:=by rw[qc];rfl
  have h70:vc .neq 70 0=true:=by rw[qc];rfl
  cbv;refine ka (ρ:=[(0,.z)]) h1 ⟨by rfl,by rfl,by rfl,by cbv;exact⟨kd _,trivial⟩⟩ ?_
  rintro v H R js ⟨rfl,c1,rfl,rfl⟩;cbv;rw[h00];cbv;refine ka (ρ:=[(1,.z)]) (h2 c1) ⟨by rfl,by rfl,by rfl,by cbv;exact⟨kd _,trivial⟩⟩ ?_
  rintro v H R js ⟨rfl,rfl,rfl⟩;cbv;rw[h70];cbv;exact⟨[0],.tup [.val (.slice none 0 0),.bool false],[.ro .u8 b],rfl,rfl,rfl,rfl,⟨rfl,trivial⟩,rfl,.inl ⟨hres,rfl,rfl⟩⟩
 rw[if_neg (fun h=>h hR)] at hres;have h2:=fun c=>khL cs log c hcs (by omega) hR
 obtain⟨u,hu⟩:∃u:Nat,used=u:=⟨used.toNat,by omega⟩;subst hu;rw[Int.toNat_natCast] at hres;have hvd:=ki7 b u cap (by omega) hcap;have hbd:=kh6 hby u;have hbl':(b.drop u).length=b.length-u:=List.length_drop;by_cases hla:(b.drop u).getLastD 0=0
 ·have h3:=fun c=>km9 (b.drop u) c hla (by omega)
  rw[if_pos hla] at hres;refine kw (ju (kH (kl kD km7 ?_)))
  intro vb vc vw vtoN vofN vaddN vsubN vmaxI vminI vcutN vgd vst vln vrep vsub vonto vsplice vstrEq vbyteV vnotB veqB hw qb qc qw qtoN qofN qaddN qsubN qmaxI qminI qcutN qgd qst qln qrep qsub qonto qsplice qstrEq qbyteV qnotB qeqB;have hm:=kD;generalize Try.prog=P at *;generalize b.drop u=b' at *;rw[hbl'] at h3;generalize hbl:b.length=bl at *;generalize cs.length=cl at *;generalize bst 256 b=RES at *;generalize (2^log.toNat:Int).toNat=N at *;generalize jf cs (2^log.toNat)=A at *;generalize qn cs log (2^log.toNat) N=B at *;generalize qa cs log (2^log.toNat) N=C at *;have h00:vc .neq 0 0=false:=by rw[qc];rfl
  have htu:vtoN (u:Int)=u:=by rw[qtoN];exact Int.toNat_natCast u
  have hcu:vcutN 0 u cap=if cap=u then 0 else 0+u:=by rw[qcutN]
  have hsu:vsubN bl u=bl-u:=by rw[qsubN]
  obtain⟨uI,huI⟩:∃uI:Int,uI=(u:Int):=⟨_,rfl⟩;rw[←huI] at h1 htu hu0 hu1;rw[←hcu] at hvd;rw[←hsu] at h3;obtain⟨o1,ho1⟩:∃o1,o1=vcutN 0 u cap:=⟨_,rfl⟩;obtain⟨n1,hn1⟩:∃n1,n1=vsubN bl u:=⟨_,rfl⟩;rw[←ho1] at hvd;rw[←hn1] at h3;cbv;refine ka (ρ:=[(0,.z)]) h1 ⟨by rfl,by rfl,by rfl,by cbv;exact⟨kd _,trivial⟩⟩ ?_
  rintro v H R js ⟨rfl,c1,rfl,rfl⟩;cbv;rw[h00];cbv;refine ka (ρ:=[(1,.z)]) (h2 c1) ⟨by rfl,by rfl,by rfl,by cbv;exact⟨kd _,trivial⟩⟩ ?_
  rintro v H R js ⟨rfl,rfl,rfl⟩;cbv;rw[h00];cbv;rw[htu,←ho1,←hn1];refine⟨fun _=>rfl,⟨hu0,hu1⟩,?_⟩
  refine ka (ρ:=[(0,.n o1)]) (h3 (vsubN cap u)) ⟨by rfl,by rfl,by rfl,by cbv;exact⟨fun _=>rfl,hvd,trivial⟩⟩ ?_
  rintro v H R js ⟨rfl,rfl,rfl⟩;cbv;refine⟨fun _=>rfl,?_⟩
  exact⟨[0],.tup [.val (.slice none 0 0),.bool false],[.ro .u8 b],rfl,rfl,rfl,rfl,⟨rfl,trivial⟩,rfl,.inl ⟨hres,rfl,rfl⟩⟩
 rw[if_neg hla] at hres;have h3:=fun c=>kl1 (b.drop u) c hla hbd (by omega)
 obtain⟨P0,hP0,hP0l,_,_⟩:=khG (b.drop u) hla hbd;have hmk:8*(((b.drop u).length:Int)-1)+(len8 ((b.drop u).getLastD 0)-1)=P0:=hP0;rw[hmk] at h3;rw[hP0] at hres;have hpl:=kag (log:=log) ⟨hlg0,hlg1⟩;obtain⟨N,hN⟩:∃N:Nat,(2^log.toNat:Int)=N:=⟨(2^log.toNat:Int).toNat,by omega⟩;have hNt:(2^log.toNat:Int).toNat=N:=by omega
 have hcell:∀k:Nat,k<N→0≤qn cs log (2^log.toNat) N k∧qn cs log (2^log.toNat) N k≤12∧0≤qa cs log (2^log.toNat) N k∧qa cs log (2^log.toNat) N k+2^(qn cs log (2^log.toNat) N k).toNat≤N:=by
  intro k hk;obtain⟨bb,q1,q2,q3,q4,_⟩:=kgl hR rfl hN hk;rw[q2,Int.toNat_natCast,←hN];exact⟨by omega,by omega,q3,q4⟩
 have hbits:∀(c:Nat) (p n:Int),-100≤p→p≤8*(b.drop u).length→0≤n→n≤12→Con Try.prog 36 [.ptr 0 .z 2 0,.int .i64 n] [.one 143 [.slice 1 .z 1 (b.drop u).length c,.int .i64 p],.ro .u8 (b.drop u)]
   (fun v H R=>v=.int .u64 (rd (b.drop u) p n.toNat)∧R=[]∧H=[.one 143 [.slice 1 .z 1 (b.drop u).length c,.int .i64 (p-n)],.ro .u8 (b.drop u)]):=by
  intro c p n h1 h2 h3 h4;have:=klY (b.drop u) c p n hbd ⟨by omega,h2⟩ (by omega);have e1:qS n=n.toNat:=by unfold qS;rw[if_neg (by omega),if_neg (by omega)]
  have e2:kbo (p-(n.toNat:Nat))=p-n:=by unfold kbo;rw[if_neg (by omega)];omega
  rw[e1,e2] at this;exact this
 have hleft:=fun c p=>klZ (b.drop u) (b.drop u).length c p
 have hrb:=fun p n=>keK (b.drop u) p n
 have hAu:=kjO hR (2^log.toNat);rw[hNt] at hres h2;have ha0:=hrb P0 log.toNat;have ho0:=hrb (P0-log) log.toNat;rw[hN] at ha0 ho0;refine kw (ju (kH (kl kD km7 ?_)))
 intro vb vc vw vtoN vofN vaddN vsubN _ _ vcutN _ _ vln _ vsub vonto _ _ _ _ _ hw qb qc qw qtoN qofN qaddN qsubN _ _ qcutN _ _ qln _ qsub qonto _ _ _ _ _;have f40:=kn4;have hm:=kD;generalize Try.prog=P at *;generalize b.drop u=b' at *;rw[hbl'] at h3;simp only[hbl'] at hbits hleft;generalize hbl:b.length=bl at *;generalize cs.length=cl at *;generalize bst 256 b=RES at *;generalize jf cs (2^log.toNat)=A at *;generalize qn cs log (2^log.toNat) N=B at *;generalize qa cs log (2^log.toNat) N=C at *;have hby0:∀a o p l,byS A B C b' 0 a o p l=none:=fun _ _ _ _=>rfl
 have hbyS:∀f a o p l,byS A B C b' (f+1) a o p l=if p-B a.toNat<0 then some (l++[A a.toNat]++[A o.toNat]) else byS A B C b' f o (C a.toNat+rd b' p (B a.toNat).toNat) (p-B a.toNat) (l++[A a.toNat]):=fun _ _ _ _ _=>rfl
 generalize byS A B C b'=BY at *;generalize rd b'=RD at *;have h00:vc .neq 0 0=false:=by rw[qc];rfl
 have htu:vtoN (u:Int)=u:=by rw[qtoN];exact Int.toNat_natCast u
 have hcu:vcutN 0 u cap=if cap=u then 0 else 0+u:=by rw[qcutN]
 have hsu:vsubN bl u=bl-u:=by rw[qsubN]
 obtain⟨uI,huI⟩:∃uI:Int,uI=(u:Int):=⟨_,rfl⟩;rw[←huI] at h1 htu hu0 hu1;rw[←hcu] at hvd;rw[←hsu] at h3;simp only[←hsu] at hbits hleft;obtain⟨o1,ho1⟩:∃o1,o1=vcutN 0 u cap:=⟨_,rfl⟩;obtain⟨n1,hn1⟩:∃n1,n1=vsubN bl u:=⟨_,rfl⟩;rw[←ho1] at hvd;rw[←hn1] at h3;simp only[←hn1] at hbits hleft;obtain⟨pI,hpI⟩:∃pI:Int,pI=(P0:Int):=⟨_,rfl⟩;rw[←hpI] at h3 hres ha0 ho0;obtain⟨a0,ha0'⟩:∃a0,a0=RD pI log.toNat:=⟨_,rfl⟩;obtain⟨o0,ho0'⟩:∃o0,o0=RD (pI-log) log.toNat:=⟨_,rfl⟩;rw[←ha0',←ho0'] at hres;rw[←ha0'] at ha0;rw[←ho0'] at ho0;obtain⟨p1,hp1⟩:∃p1,p1=pI-log:=⟨_,rfl⟩;obtain⟨p2,hp2⟩:∃p2,p2=p1-log:=⟨_,rfl⟩;rw[←hp1] at ho0' hres;rw[←hp2] at hres;have hpb:pI<8*(n1:Int):=by omega
 have ewa:vw .i64 a0=a0:=by rw[qw];exact wrap_i64 (by omega) (by omega)
 have ewo:vw .i64 o0=o0:=by rw[qw];exact wrap_i64 (by omega) (by omega)
 cbv;refine ka (ρ:=[(0,.z)]) h1 ⟨by rfl,by rfl,by rfl,by cbv;exact⟨kd _,trivial⟩⟩ ?_
 rintro v H R js ⟨rfl,c1,rfl,rfl⟩;cbv;rw[h00];cbv;refine ka (ρ:=[(1,.z)]) (h2 c1) ⟨by rfl,by rfl,by rfl,by cbv;exact⟨kd _,trivial⟩⟩ ?_
 rintro v H R js ⟨rfl,rfl,rfl⟩;cbv;rw[h00];cbv;rw[htu,←ho1,←hn1];refine⟨fun _=>rfl,⟨hu0,hu1⟩,?_⟩
 refine CallX.cv f40.go (Cv.arrEq 2 (fun m=>[.int .u8 (A m),.int .u8 (B m),.int .u16 (C m)]) (by rfl) (by intro i;rfl) (Cv.here ?_)) (by rfl)
 refine ka (ρ:=[(0,.n o1)]) (h3 (vsubN cap u)) ⟨by rfl,by rfl,by rfl,by cbv;exact⟨fun _=>rfl,hvd,trivial⟩⟩ ?_
 rintro v H R js ⟨rfl,rfl,c2,rfl⟩;cbv;have hb1:=hbits c2 pI log (by((try simp only[nc] at *);omega)) (by((try simp only[nc] at *);omega)) (by((try simp only[nc] at *);omega)) (by((try simp only[nc] at *);omega));have hb2:=hbits c2 p1 log (by((try simp only[nc] at *);omega)) (by((try simp only[nc] at *);omega)) (by((try simp only[nc] at *);omega)) (by((try simp only[nc] at *);omega));rw[←ha0',←hp1] at hb1;rw[←ho0',←hp2] at hb2;have hlf:=hleft c2 p2;refine⟨fun _=>rfl,?_⟩
 refine ka (ρ:=[(4,.z),(3,.z)]) hb1 ⟨by rfl,by rfl,by rfl,by cbv;exact⟨fun _=>rfl,kd _,trivial⟩⟩ ?_
 rintro v H R js ⟨rfl,rfl,rfl⟩;cbv;rw[ewa];refine⟨fun _=>rfl,?_⟩
 refine ka (ρ:=[(4,.z),(3,.z)]) hb2 ⟨by rfl,by rfl,by rfl,by cbv;exact⟨fun _=>rfl,kd _,trivial⟩⟩ ?_
 rintro v H R js ⟨rfl,rfl,rfl⟩;cbv;rw[ewo];refine⟨fun _=>rfl,?_⟩
 refine ka (ρ:=[(4,.z),(3,.z)]) hlf ⟨by rfl,by rfl,by rfl,by cbv;exact⟨fun _=>rfl,kd _,trivial⟩⟩ ?_
 rintro v H R js ⟨rfl,rfl,rfl⟩;cbv;refine⟨fun _=>rfl,?_⟩
 generalize hz1:vc .lss p2 0=z1;cases z1
 rotate_left
 ·rw[qc,ko] at hz1;rw[if_pos hz1] at hres;cbv;exact⟨[0],.tup [.val (.slice none 0 0),.bool false],[.ro .u8 b],rfl,rfl,rfl,rfl,⟨rfl,trivial⟩,rfl,.inl ⟨hres,rfl,rfl⟩⟩
 rw[qc,kb] at hz1;rw[if_neg hz1] at hres;clear hb1 hb2 hlf;cbv;refine WX.cv (Cv.nilT 12 5 .u8 (by rfl) (by cbv;exact⟨fun _=>rfl,trivial⟩) (Cv.here ?_))
 cbv;refine kv (α:=Int×Int×Int×Nat×Nat×List Int) ([13]++[51,52,53,54,55,56,57,58,59,60,61,62,63,64,65,66,67,68,69,70,71,72,73,74,75,76,77,78,79,80,81,82,83,84]) [5]
  (fun(a,o,p,n,c,L)=>[(10,.int .i64 a),(11,.int .i64 o),(12,.slice 5 .z 1 n c)]) (fun(a,o,p,n,c,L)=>[(4,.one 143 [.slice 3 .z 1 n1 c2,.int .i64 p]),(5,.buf 5 .u8 L c)])
  (fun(a,o,p,n,c,L)=>∃f:Nat,f+n=256∧RES=BY f a o p L∧n=L.length∧0≤a∧a<N∧0≤o∧o<N∧0≤p∧p≤pI∧n≤c) (fun(a,o,p,n,c,L)=>257-n) hw hm ?_ ?_
 ·refine Cv.genAt [] [] (Cv.fold ([13]++[51,52,53,54,55,56,57,58,59,60,61,62,63,64,65,66,67,68,69,70,71,72,73,74,75,76,77,78,79,80,81,82,83,84]) 6 [5] (by exact Nat.le_refl _) (by exact Nat.le_of_ble_eq_true rfl) (by rfl) (by cbv) ?_)
  intro js;refine⟨(_,_,_,_,_,_),?_,js,rfl⟩
  exact⟨256,rfl,hres,rfl,ha0.1,by omega,ho0.1,by omega,by omega,by omega,Nat.le_refl _⟩
 ·rintro⟨a,o,p,n,c,L⟩ js ⟨f,hfn,hRS,hnL,ha1,ha2,ho1',ho2',hp0,hpp,hnc⟩;obtain⟨nI,hnI⟩:∃nI:Int,nI=(n:Int):=⟨_,rfl⟩;have en:vofN n=nI:=by rw[qofN,hnI]
  cbv;rw[en];generalize hz2:vc .leq nI 255=z2;cases z2
  ·rw[qc,kaz] at hz2;have hf0:f=0:=by((try simp only[nc] at *);omega)
   subst hf0;rw[hby0] at hRS;cbv;exact⟨[0],.tup [.val (.slice none 0 0),.bool false],[.ro .u8 b],rfl,rfl,rfl,rfl,⟨rfl,trivial⟩,rfl,.inl ⟨hRS,rfl,rfl⟩⟩
  rw[qc,kay] at hz2;obtain⟨g,rfl⟩:∃g,f=g+1:=⟨f-1,by((try simp only[nc] at *);omega)⟩;rw[hbyS] at hRS;obtain⟨aN,haN⟩:∃aN:Nat,aN=a.toNat:=⟨_,rfl⟩;obtain⟨oN,hoN⟩:∃oN:Nat,oN=o.toNat:=⟨_,rfl⟩;have hta:vtoN a=aN:=by rw[qtoN,haN]
  have hto:vtoN o=oN:=by rw[qtoN,hoN]
  rw[←haN,←hoN] at hRS;have haNN:aN<N:=by omega
  have hoNN:oN<N:=by omega
  have hc1:=hcell aN haNN;have hA1:=hAu aN;have hA2:=hAu oN;have hbt:=hbits c2 p (B aN) (by omega) (by omega) (by omega) (by omega);have hrr:=hrb p (B aN).toNat;generalize hBa:B aN=Ba at *;generalize hCa:C aN=Ca at *;generalize hAa:A aN=Aa at *;generalize hAo:A oN=Ao at *;obtain⟨x,hx⟩:∃x,x=RD p Ba.toNat:=⟨_,rfl⟩;rw[←hx] at hbt hRS hrr;obtain⟨q,hq⟩:∃q,q=p-Ba:=⟨_,rfl⟩;rw[←hq] at hbt hRS;have hlf:=hleft c2 q;have ewB:vw .i64 Ba=Ba:=by rw[qw];exact wrap_i64 (by omega) (by omega)
  have ewC:vw .i64 Ca=Ca:=by rw[qw];exact wrap_i64 (by omega) (by omega)
  have ewx:vw .i64 x=x:=by rw[qw];exact wrap_i64 (by omega) (by omega)
  obtain⟨y,hy⟩:∃y,y=Ca+x:=⟨_,rfl⟩;have eay:vb .add .i64 Ca x=y:=by rw[qb,kh (by omega) (by omega)];exact hy.symm
  rw[←hy] at hRS;have hinA:0≤a∧a<(N:Int):=⟨ha1,ha2⟩;have hinO:0≤o∧o<(N:Int):=⟨ho1',ho2'⟩;have hln1:∀z:Int,vln [z]=1:=fun z=>by rw[qln];rfl
  have hlnL:∀l,vln l=l.length:=fun l=>by rw[qln]
  have haddq:∀a b,vaddN a b=a+b:=fun a b=>by rw[qaddN]
  have hont:vonto L n (vsub [Aa] 0 1)=L++[Aa]:=by rw[qonto,qsub,hnL];simp
  obtain⟨L2,hL2⟩:∃L2,L2=L++[Aa]:=⟨_,rfl⟩;rw[←hL2] at hont hRS;have hL2n:L2.length=n+1:=by rw[hL2,List.length_append,hnL];rfl
  have ha1':=haddq n 1;obtain⟨n2,hn2⟩:∃n2,n2=n+1:=⟨_,rfl⟩;rw[←hn2] at ha1' hL2n;have hn2b:n2*1≤140737488355328:=by((try simp only[nc] at *);omega)
  cbv;rw[hta,hBa,hCa,hAa];refine⟨⟨hinA⟩,⟨haNN⟩,⟨haNN⟩,⟨haNN⟩,fun _=>rfl,fun _=>rfl,⟨by rw[haddq,hln1];exact Nat.le_refl _⟩,⟨by rw[hlnL,←hnL];exact Nat.le_refl _⟩,⟨Nat.le_refl _⟩,⟨by rw[ha1'];exact hn2b⟩,fun _=>rfl,?_⟩
  intro c4 js4 hle;have hle':n2≤c4:=by have:=hle.out;simp only at this;rw[ha1'] at this;exact this
  cbv;rw[hont,ha1',ewB,ewC];refine ka (ρ:=[(4,.z),(3,.z)]) hbt ⟨by rfl,by rfl,by rfl,by cbv;exact⟨fun _=>rfl,kd _,trivial⟩⟩ ?_
  rintro v H R js5 ⟨rfl,rfl,rfl⟩;cbv;refine⟨fun _=>rfl,?_⟩
  rw[ewx,eay];refine ka (ρ:=[(4,.z),(3,.z)]) hlf ⟨by rfl,by rfl,by rfl,by cbv;exact⟨fun _=>rfl,kd _,trivial⟩⟩ ?_
  rintro v H R js6 ⟨rfl,rfl,rfl⟩;cbv;refine⟨fun _=>rfl,?_⟩
  generalize hz3:vc .lss q 0=z3;cases z3
  ·rw[qc,kb] at hz3;rw[if_neg hz3] at hRS;have hmu:∀_:Unit,257-n2<257-n:=fun _=>by((try simp only[nc] at *);omega)
   cbv;refine Cv.fold ([13]++[51,52,53,54,55,56,57,58,59,60,61,62,63,64,65,66,67,68,69,70,71,72,73,74,75,76,77,78,79,80,81,82,83,84]) 6 [5] (by exact Nat.le_refl _) (by exact Nat.le_of_ble_eq_true rfl) (by rfl) (by cbv) ?_
   intro js;refine⟨(_,_,_,_,_,_),?_,js,rfl⟩
   exact⟨⟨g,by omega,hRS,hL2n.symm,ho1',ho2',by omega,by omega,by omega,by omega,hle'⟩,hmu ()⟩
  ·rw[qc,ko] at hz3;rw[if_pos hz3] at hRS;have hont2:vonto L2 n2 (vsub [Ao] 0 1)=L2++[Ao]:=by rw[qonto,qsub,←hL2n];simp
   obtain⟨L3,hL3⟩:∃L3,L3=L2++[Ao]:=⟨_,rfl⟩;rw[←hL3] at hont2 hRS;have hL3n:L3.length=n2+1:=by rw[hL3,List.length_append,hL2n];rfl
   have ha2':=haddq n2 1;obtain⟨n3,hn3⟩:∃n3,n3=n2+1:=⟨_,rfl⟩;rw[←hn3] at ha2' hL3n;have hn3b:n3*1≤140737488355328:=by((try simp only[nc] at *);omega)
   cbv;rw[hto,hAo];refine⟨⟨hinO⟩,⟨hoNN⟩,fun _=>rfl,⟨by rw[haddq,hln1];exact Nat.le_refl _⟩,⟨by rw[hlnL,hL2n];exact Nat.le_refl _⟩,⟨Nat.le_refl _⟩,⟨by rw[ha2'];exact hn3b⟩,fun _=>rfl,?_⟩
   intro c5 js7 hle5;cbv;rw[hont2,ha2'];subst hL3n;exact⟨[0,5],.tup [.slice 1 .z 1 L3.length c5,.bool true],[.ro .u8 b,.buf 5 .u8 L3 c5],rfl,rfl,rfl,rfl,⟨rfl,rfl,trivial⟩,rfl,.inr ⟨L3,c5,hRS,rfl,rfl⟩⟩
end Go.Proofs.Ytlclleihoampdaa
