import Derived.Test.YtlclleihoampdaaB3
import Derived.Test.YtlclleihoampdaaFD
import Derived.Test.YtlclleihoampdaaB5
import Derived.Test.YtlclleihoampdaaFX
import Derived.Test.YtlclleihoampdaaB1
import Derived.Test.YtlclleihoampdaaB4
set_option linter.unusedVariables false
set_option linter.unusedSimpArgs false
namespace Go.Proofs.Ytlclleihoampdaa
open Go Go.Sx Go.Proofs
theorem kfR {l:List Int} (h:∀c∈l,kR c):∀c∈l,isByte c:=fun c hc=>by have:=h c hc;unfold kR at this;exact⟨this.1,by omega⟩
set_option maxRecDepth 10000
set_option maxHeartbeats 40000000
theorem Wt.uniq {l:List Int} {M K:Nat} (h:Wt l M) (k:Wt l K):M=K:=by
 have e:(2:Int)^M=2^K:=by rw[←h.2.2.2.2.2.1,←k.2.2.2.2.2.1]
 have e:2^M=2^K:=by exact_mod_cast e
 exact(Nat.pow_right_inj (by decide)).1 e
-- CASES
def w2 (b:List Int) (i:Nat):Int:=b.getD (2*i) 0+b.getD (2*i+1) 0*256


def hnW (b:List Int):Int:=if 128≤b.getD 0 0 then(b.getD 0 0-126) / 2 else b.getD 0 0
def kcm (b:List Int) (k:Nat):Int:=if k % 2=0 then b.getD (1+k / 2) 0 / 16 else b.getD (1+k / 2) 0 % 16
def kaG (b:List Int) (n:Nat):List Int:=(List.range n).map (kcm b)
theorem kcZ (b:List Int) (n:Nat):(kaG b n).length=n:=by simp[kaG]
theorem kk9 (b:List Int) (n:Nat):kaG b (n+1)=kaG b n++[kcm b n]:=by simp[kaG,List.range_succ]
theorem kla (b:List Int) {n m:Nat} (h:n≤m):(kaG b m).take n=kaG b n:=by
 unfold kaG;rw[←List.map_take,List.take_range];congr 2
 omega
def kid (F:Nat) (b:List Int):Option (List Int):=if 128≤b.getD 0 0 then some (kaG b (b.getD 0 0-127).toNat) else bst F ((b.drop 1).take (b.getD 0 0).toNat)
def jB (b:List Int):Prop:=b.length=0∨(b.length:Int)-1<hnW b
def RdW (F:Nat) (b l:List Int):Prop:=∃t,kid F b=some t∧OkE t l
theorem kon {b:List Int} (hby:∀x∈b,isByte x) (k:Nat):0≤kcm b k∧kcm b k≤15:=by
 have h:=kaA hby (1+k / 2);unfold isByte at h;unfold kcm;split<;>omega
theorem knw {b:List Int} (hby:∀x∈b,isByte x) (n:Nat):∀c∈kaG b n,kR c:=by
 intro c hc;simp only[kaG,List.mem_map,List.mem_range] at hc;obtain⟨k,_,rfl⟩:=hc;have:=kon hby k;unfold kR;omega
theorem kmK (b:List Int) (n cap:Nat) (hn:1+n≤b.length) (hc:b.length≤cap):kiO (if cap=1 then 0 else 0+1) ((b.drop 1).take n) b:=by
 have hlen:((b.drop 1).take n).length=n:=by rw[List.length_take,List.length_drop];omega
 refine⟨?_,fun i hi=>?_⟩
 ·rw[hlen];split<;>omega
 ·rw[hlen] at hi;rw[if_neg (by omega)];rw[List.getD_eq_getElem?_getD,List.getD_eq_getElem?_getD,List.getElem?_take,if_pos hi,List.getElem?_drop,Nat.zero_add]
theorem kfS (b:List Int) (cap:Nat) (hby:∀x∈b,isByte x) (hl:b.length≤140737488355328) (hcap:b.length≤cap) :
  Con Try.prog 20 [.slice 0 .z 1 b.length cap] [.ro .u8 b] (fun v H R=>R=[]∧((jB b∧H=[.ro .u8 b]∧v=.tup [.val (.slice none 0 0),.int .i64 0,.int .i64 10]) ∨
   (¬jB b∧(∀l,¬RdW 256 b l)∧H=[.ro .u8 b]∧v=.tup [.val (.slice none 0 0),.int .i64 0,.int .i64 11]) ∨
   (¬jB b∧∃l c',RdW 256 b l∧H=[.ro .u8 b,.buf 5 .u8 l c']∧v=.tup [.slice 1 .z 1 l.length c',.int .i64 (1+hnW b),.int .i64 0]))):=by
 have hh:=kaA hby 0;unfold isByte at hh;obtain⟨h,hh0⟩:∃h,h=b.getD 0 0:=⟨_,rfl⟩;rw[←hh0] at hh;have hhn:hnW b=if 128≤h then(h-126) / 2 else h:=by unfold hnW;rw[←hh0]
 have htp:∀F,kid F b=if 128≤h then some (kaG b (h-127).toNat) else bst F ((b.drop 1).take h.toNat):=fun F=>by unfold kid;rw[←hh0]
 obtain⟨n,hn⟩:∃n,n=hnW b:=⟨_,rfl⟩;rw[←hn] at hhn;have hsh:jB b↔b.length=0∨(b.length:Int)-1<n:=by unfold jB;rw[←hn]
 rw[←hn];by_cases h0:b.length=0
 ·have hs:=hsh.2 (.inl h0);refine kw (ju (kH (kl kD km6 ?_)))
  intro vb vc vw vtoN vofN vaddN vsubN vmaxI vminI vcutN vgd vst vln vrep vsub vonto vsplice vstrEq vbyteV vnotB veqB hw qb qc qw qtoN qofN qaddN qsubN qmaxI qminI qcutN qgd qst qln qrep qsub qonto qsplice qstrEq qbyteV qnotB qeqB;have hm:=kD;generalize Try.prog=P at *;generalize jB b=SH at *;generalize RdW 256 b=RW at *;generalize b.length=bl at *;subst h0;have e:vc .eql (vofN 0) 0=true:=by rw[qc,qofN];rfl
  cbv;rw[e];cbv;exact⟨[0],.tup [.val (.slice none 0 0),.lit .i64 0,.lit .i64 10],[.ro .u8 b],rfl,rfl,rfl,rfl,⟨rfl,trivial⟩,rfl,.inl ⟨hs,rfl,rfl⟩⟩
 by_cases h128:128≤h
 ·have hRW:∀l,RdW 256 b l↔OkE (kaG b (h-127).toNat) l:=by
   intro l;unfold RdW;rw[htp,if_pos h128];exact⟨fun⟨t,h1,h2⟩=>by rw[Option.some.injEq] at h1;subst h1;exact h2,fun h=>⟨_,rfl,h⟩⟩
  rw[if_pos h128] at hhn;obtain⟨nN,hnN⟩:∃nN:Nat,n=nN:=⟨n.toNat,by omega⟩;obtain⟨kN,hkN⟩:∃kN:Nat,h-127=kN:=⟨(h-127).toNat,by omega⟩;rw[hkN,Int.toNat_natCast] at hRW;have hk2:kN≤2*nN∧2*nN≤kN+1∧kN≤128∧nN≤64:=by omega
  have hends:=fun(c cc:Nat) (h:c≤cc)=>kh5 (kaG b (2*nN)) kN c cc (knw hby _) (by rw[kcZ];omega) h (by omega)
  rw[kla b hk2.1] at hends;have hnl:∀k,(kaG b k).length=k:=kcZ b;have hns:∀k,kaG b (k+1)=kaG b k++[kcm b k]:=kk9 b;have hnb:∀i,kcm b (2*i)=b.getD (1+i) 0 / 16∧kcm b (2*i+1)=b.getD (1+i) 0 % 16:=by
   intro i;unfold kcm;rw[if_pos (by omega),if_neg (by omega),show 2*i / 2=i by omega,show(2*i+1) / 2=i by omega];exact⟨rfl,rfl⟩
  have hbb:=kaA hby;unfold isByte at hbb;refine kw (ju (kH (kl kD km6 ?_)))
  intro vb vc vw vtoN vofN vaddN vsubN vmaxI vminI vcutN vgd vst vln vrep vsub vonto vsplice vstrEq vbyteV vnotB veqB hw qb qc qw qtoN qofN qaddN qsubN qmaxI qminI qcutN qgd qst qln qrep qsub qonto qsplice qstrEq qbyteV qnotB qeqB;have f17:=koF;have hm:=kD;generalize Try.prog=P at *;generalize jB b=SH at *;generalize RdW 256 b=RW at *;generalize kcm b=NB at *;have hnib0:kaG b 0=[]:=rfl;generalize kaG b=NBS at *;generalize OkE (NBS kN)=OK at *;generalize hbl:b.length=bl at *;have hgd:∀i,vgd b i=b.getD i 0:=fun i=>by rw[qgd]
  have hlnb:vln b=bl:=by simp only[qln,hbl]
  have hlnq:∀l,vln l=l.length:=fun l=>by rw[qln]
  have haddq:∀a b,vaddN a b=a+b:=fun a b=>by rw[qaddN]
  obtain⟨bI,hbI⟩:∃bI:Int,bI=bl:=⟨_,rfl⟩;have ebl:vofN bl=bI:=by rw[qofN,hbI]
  have e0:vc .eql bI 0=false:=by rw[qc,ky];omega
  have ewh:vw .i64 h=h:=by rw[qw];exact wrap_i64 (by omega) (by omega)
  have e128:vc .geq h 128=true:=by rw[qc,jP];exact h128
  have e128':vc .lss h 128=false:=by rw[qc,kb];omega
  have es1:vb .sub .i64 h 126=h-126:=by rw[qb,ku (by omega) (by omega)]
  have eq1:vb .quo .i64 (h-126) 2=n:=by rw[qb,j6 (by omega) (by omega) (by omega),hhn]
  have es2:vb .sub .i64 bI 1=bI-1:=by rw[qb,ku (by omega) (by omega)]
  have es3:vb .sub .i64 h 127=h-127:=by rw[qb,ku (by omega) (by omega)]
  have ea1:vb .add .i64 1 n=1+n:=by rw[qb,kh (by omega) (by omega)]
  obtain⟨h126,hh126⟩:∃x,x=h-126:=⟨_,rfl⟩;rw[←hh126] at es1 eq1;obtain⟨h127,hh127⟩:∃x,x=h-127:=⟨_,rfl⟩;rw[←hh127] at es3;obtain⟨bI1,hbI1⟩:∃x,x=bI-1:=⟨_,rfl⟩;rw[←hbI1] at es2;obtain⟨n1,hn1⟩:∃x,x=1+n:=⟨_,rfl⟩;rw[←hn1] at ea1 ⊢
  cbv;rw[ebl,e0];cbv;rw[haddq,hlnb,hgd,←hh0,ewh,e128];refine⟨⟨by omega,by omega⟩,⟨by omega⟩,⟨by omega⟩,?_⟩
  cbv;rw[es1,eq1,ebl,es2];generalize hz1:vc .lss bI1 n=z1;cases z1
  rotate_left
  ·rw[qc,ko] at hz1;cbv;exact⟨[0],.tup [.val (.slice none 0 0),.lit .i64 0,.lit .i64 10],[.ro .u8 b],rfl,rfl,rfl,rfl,⟨rfl,trivial⟩,rfl,.inl ⟨hsh.2 (.inr (by((try simp only[nc] at *);omega))),rfl,rfl⟩⟩
  rw[qc,kb] at hz1;have hnsh:¬SH:=fun h=>by rcases hsh.1 h with h|h<;>((try simp only[nc] at *);omega)
  have htn1:vtoN n1=1+nN:=by simp only[qtoN,hn1,hnN];((try simp only[nc] at *);omega)
  have hcut:vcutN 0 1 cap=1:=by rw[qcutN];simp only;rw[if_neg (by((try simp only[nc] at *);omega))]
  have hsb1:vsubN (1+nN) 1=nN:=by rw[qsubN];simp only;omega
  cbv;rw[e128'];cbv;rw[ea1,htn1,hcut,hsb1];refine⟨⟨by((try simp only[nc] at *);omega),by((try simp only[nc] at *);omega)⟩,⟨by omega,by omega⟩,?_⟩
  refine WX.cv (Cv.nilT 7 5 .u8 (by rfl) (by cbv;try exact⟨fun _=>rfl,trivial⟩) (Cv.here ?_))
  obtain⟨nI,hnI⟩:∃nI:Int,nI=(nN:Int):=⟨_,rfl⟩;have enN:vofN nN=nI:=by rw[qofN,hnI]
  obtain⟨c1,hc1⟩:∃c1,c1=vsubN cap 1:=⟨_,rfl⟩;cbv;rw[←hc1,enN];refine kv (α:=Int×Nat×Nat×List Int) ([10]++[45,46,47,48,49,50,51,52,53,54,55]) [1] (fun(k,m,c,L)=>[(44,.int .i64 k),(7,.slice 1 .z 1 m c)]) (fun(k,m,c,L)=>[(1,.buf 5 .u8 L c)])
   (fun(k,m,c,L)=>∃i:Nat,k=i∧i≤nN∧L=NBS (2*i)∧m=2*i∧m≤c) (fun(k,_)=>nN-k.toNat) hw hm ?_ ?_
  ·refine Cv.genAt [44] [] (Cv.fold ([10]++[45,46,47,48,49,50,51,52,53,54,55]) 2 [1] (by exact Nat.le_refl _) (by exact Nat.le_of_ble_eq_true rfl) (by rfl) (by cbv) ?_)
   intro js;refine⟨(_,_,_,_),?_,js,rfl⟩
   exact⟨0,rfl,by omega,hnib0.symm,rfl,Nat.le_refl _⟩
  ·rintro⟨k,m,c,L⟩ js ⟨i,hk,hi,hL,hm2,hmc⟩;cbv;generalize hz2:vc .lss k nI=z2;cases z2
   rotate_left
   ·rw[qc,ko] at hz2;have hlt:i<nN:=by((try simp only[nc] at *);omega)
    have hti:vtoN k=i:=by rw[qtoN,hk];exact Int.toNat_natCast i
    have hinR:0≤k∧k<(nN:Int):=by((try simp only[nc] at *);omega)
    obtain⟨k1,hk1⟩:∃k1:Int,k1=((i+1:Nat):Int):=⟨_,rfl⟩;have ek1:vb .add .i64 k 1=k1:=by(try simp only[nc] at *);rw[qb,kh (by omega) (by omega)];omega
    have hmu:∀_:Unit,nN-k1.toNat<nN-k.toNat:=fun _=>by((try simp only[nc] at *);omega)
    have hb1:=hbb (1+i);obtain⟨hn1',hn2'⟩:=hnb i;have hs1:=hns (2*i);have hs2:=hns (2*i+1);rw[hs1,List.append_assoc,hn1',hn2',←hL] at hs2;generalize hxx:b.getD (1+i) 0=x at *;obtain⟨x1,hx1⟩:∃x1,x1=x / 16:=⟨_,rfl⟩;obtain⟨x2,hx2⟩:∃x2,x2=x % 16:=⟨_,rfl⟩;have e1:vb .shr .u8 x 4=x1:=by rw[qb,kb9 (by decide),hx1];rfl
    have e2:vb .and .u8 x 15=x2:=by rw[qb,hx2,show(15:Int)=2^4-1 by decide,keD rfl 4 (by decide) hb1.1 (by show x<256;omega)];rfl
    rw[←hx1,←hx2] at hs2;obtain⟨L2,hL2⟩:∃L2,L2=NBS (2*i+1+1):=⟨_,rfl⟩;rw[←hL2] at hs2;have hont:vonto L m (vsub [x1,x2] 0 2)=L2:=by
     have hl2:L.length=m:=by rw[hL,hm2];exact hnl _
     rw[hs2,qonto,qsub,←hl2];simp
    have hln2:vln [x1,x2]=2:=by rw[qln];rfl
    have hlL:L.length=m:=by rw[hL,hm2];exact hnl _
    have ha2:=haddq m 2;obtain⟨m2,hm2'⟩:∃m2,m2=m+2:=⟨_,rfl⟩;rw[←hm2'] at ha2;have hm2b:m2*1≤140737488355328:=by omega
    have hlt2:1+i<bl:=by((try simp only[nc] at *);omega)
    cbv;rw[hti,haddq,hgd,hlnb,hxx,e1,e2];refine⟨⟨hinR⟩,⟨hlt2⟩,⟨hlt2⟩,⟨by rw[haddq,hln2];exact Nat.le_refl _⟩,⟨by rw[hlnq,hlL];exact Nat.le_refl _⟩,⟨Nat.le_refl _⟩,⟨by rw[ha2];exact hm2b⟩,?_⟩
    intro c2 js2 hle;have hle':m2≤c2:=by have:=hle.out;simp only at this;rw[ha2] at this;exact this
    cbv;rw[hont,ha2,ek1];refine Cv.fold ([10]++[45,46,47,48,49,50,51,52,53,54,55]) 2 [1] (by exact Nat.le_refl _) (by exact Nat.le_of_ble_eq_true rfl) (by rfl) (by cbv) ?_
    intro js;refine⟨(_,_,_,_),?_,js,rfl⟩
    exact⟨⟨i+1,hk1,hlt,hL2,by omega,hle'⟩,hmu ()⟩
   ·rw[qc,kb] at hz2;have hin:i=nN:=by((try simp only[nc] at *);omega)
    subst hin;have hth:vtoN h127=kN:=by rw[qtoN,hh127,hkN];exact Int.toNat_natCast kN
    have hec:=hends c c (Nat.le_refl _);rw[←hL] at hec;have hnt:vnotB true=false:=by rw[qnotB];rfl
    have hnf:vnotB false=true:=by rw[qnotB];rfl
    cbv;rw[es3,hth];refine⟨⟨by((try simp only[nc] at *);omega),by((try simp only[nc] at *);omega)⟩,?_⟩
    refine ka (ρ:=[(1,.z)]) hec ⟨by rfl,by rfl,by rfl,by cbv⟩ ?_
    rintro v H R js3 ⟨rfl,⟨l,c3,hok,rfl,rfl⟩|⟨hno,l3,c3,rfl,rfl|⟨n3,rfl⟩⟩⟩
    ·obtain⟨ll,hll⟩:∃ll,ll=l.length:=⟨_,rfl⟩;rw[←hll];cbv;rw[hnt];cbv;rw[ea1];subst hll;exact⟨[0,1],.tup [.slice 1 .z 1 l.length c3,.int .i64 n1,.lit .i64 0],[.ro .u8 b,.buf 5 .u8 l c3],rfl,rfl,rfl,rfl,⟨rfl,rfl,trivial⟩,rfl,.inr (.inr ⟨hnsh,l,c3,(hRW l).2 hok,rfl,rfl⟩)⟩
    ·cbv;rw[hnf];cbv;exact⟨[0],.tup [.val (.slice none 0 0),.lit .i64 0,.lit .i64 11],[.ro .u8 b],rfl,rfl,rfl,rfl,⟨rfl,trivial⟩,rfl,.inr (.inl ⟨hnsh,fun l h=>hno l ((hRW l).1 h),rfl,rfl⟩)⟩
    ·cbv;rw[hnf];cbv;exact⟨[0],.tup [.val (.slice none 0 0),.lit .i64 0,.lit .i64 11],[.ro .u8 b],rfl,rfl,rfl,rfl,⟨rfl,trivial⟩,rfl,.inr (.inl ⟨hnsh,fun l h=>hno l ((hRW l).1 h),rfl,rfl⟩)⟩
 ·have hRW:∀l,RdW 256 b l↔∃t,bst 256 ((b.drop 1).take h.toNat)=some t∧OkE t l:=by
   intro l;unfold RdW;rw[htp,if_neg h128]
  rw[if_neg h128] at hhn;obtain⟨nN,hnN⟩:∃nN:Nat,n=nN:=⟨n.toNat,by omega⟩;have hht:h.toNat=nN:=by omega
  rw[hht] at hRW;by_cases hs1:(b.length:Int)-1<n
  ·have hs:=hsh.2 (.inr hs1);refine kw (ju (kH (kl kD km6 ?_)))
   intro vb vc vw vtoN vofN vaddN vsubN vmaxI vminI vcutN vgd vst vln vrep vsub vonto vsplice vstrEq vbyteV vnotB veqB hw qb qc qw qtoN qofN qaddN qsubN qmaxI qminI qcutN qgd qst qln qrep qsub qonto qsplice qstrEq qbyteV qnotB qeqB;have hm:=kD;generalize Try.prog=P at *;generalize jB b=SH at *;generalize RdW 256 b=RW at *;generalize hbl:b.length=bl at *;have hgd:∀i,vgd b i=b.getD i 0:=fun i=>by rw[qgd]
   have hlnb:vln b=bl:=by simp only[qln,hbl]
   have haddq:∀a b,vaddN a b=a+b:=fun a b=>by rw[qaddN]
   obtain⟨bI,hbI⟩:∃bI:Int,bI=bl:=⟨_,rfl⟩;have ebl:vofN bl=bI:=by rw[qofN,hbI]
   have e0:vc .eql bI 0=false:=by rw[qc,ky];omega
   have ewh:vw .i64 h=h:=by rw[qw];exact wrap_i64 (by omega) (by omega)
   have e128:vc .geq h 128=false:=by rw[qc,k7];exact h128
   have es2:vb .sub .i64 bI 1=bI-1:=by rw[qb,ku (by omega) (by omega)]
   obtain⟨bI1,hbI1⟩:∃x,x=bI-1:=⟨_,rfl⟩;rw[←hbI1] at es2;have hz1:vc .lss bI1 h=true:=by rw[qc,ko];omega
   cbv;rw[ebl,e0];cbv;rw[haddq,hlnb,hgd,←hh0,ewh,e128];refine⟨⟨by omega,by omega⟩,⟨by omega⟩,⟨by omega⟩,?_⟩
   cbv;rw[ebl,es2,hz1];cbv;exact⟨[0],.tup [.val (.slice none 0 0),.lit .i64 0,.lit .i64 10],[.ro .u8 b],rfl,rfl,rfl,rfl,⟨rfl,trivial⟩,rfl,.inl ⟨hs,rfl,rfl⟩⟩
  have hnsh0:¬jB b:=fun h=>by rcases hsh.1 h with h|h<;>omega
  have hml:((b.drop 1).take nN).length=nN:=by rw[List.length_take,List.length_drop];omega
  have hmb:∀x∈(b.drop 1).take nN,isByte x:=fun x hx=>hby x (List.mem_of_mem_drop (List.mem_of_mem_take hx))
  have hvm:=kmK b nN cap (by omega) hcap;have hbs:=fun c h=>kcW ((b.drop 1).take nN) c hmb (by omega) h
  rw[hml] at hbs;have hu8:=fun L=>@kgu 256 ((b.drop 1).take nN) L
  have hends:=fun(L:List Int) (c cc:Nat) (hL:bst 256 ((b.drop 1).take nN)=some L) (h:c≤cc)=>kh5 L L.length c cc (kgu hL).1 (Nat.le_refl _) h (by have:=(kgu hL).2;omega)
  simp only[List.take_length] at hends;refine kw (ju (kH (kl kD km6 ?_)))
  intro vb vc vw vtoN vofN vaddN vsubN _ _ vcutN vgd _ vln _ _ _ _ _ _ vnotB _ _ qb qc qw qtoN qofN qaddN qsubN _ _ qcutN qgd _ qln _ _ _ _ _ _ qnotB _;have hm:=kD;generalize Try.prog=P at *;generalize jB b=SH at *;generalize RdW 256 b=RW at *;generalize bst 256 ((b.drop 1).take nN)=RES at *;generalize (b.drop 1).take nN=b1 at *;generalize hOE:OkE=OE at *;generalize hbl:b.length=bl at *;have hgd:∀i,vgd b i=b.getD i 0:=fun i=>by rw[qgd]
  have hlnb:vln b=bl:=by simp only[qln,hbl]
  have haddq:∀a b,vaddN a b=a+b:=fun a b=>by rw[qaddN]
  obtain⟨bI,hbI⟩:∃bI:Int,bI=bl:=⟨_,rfl⟩;have ebl:vofN bl=bI:=by rw[qofN,hbI]
  have e0:vc .eql bI 0=false:=by rw[qc,ky];omega
  have ewh:vw .i64 h=h:=by rw[qw];exact wrap_i64 (by omega) (by omega)
  have e128:vc .geq h 128=false:=by rw[qc,k7];exact h128
  have e128':vc .lss h 128=true:=by rw[qc,ko];omega
  have es2:vb .sub .i64 bI 1=bI-1:=by rw[qb,ku (by omega) (by omega)]
  obtain⟨bI1,hbI1⟩:∃x,x=bI-1:=⟨_,rfl⟩;rw[←hbI1] at es2;have hz1:vc .lss bI1 h=false:=by rw[qc,kb];omega
  have ea1:vb .add .i64 1 h=1+n:=by rw[qb,kh (by omega) (by omega),hhn]
  obtain⟨n1,hn1⟩:∃x,x=1+n:=⟨_,rfl⟩;rw[←hn1] at ea1 ⊢
  have htn1:vtoN n1=1+nN:=by simp only[qtoN,hn1,hnN];((try simp only[nc] at *);omega)
  have hcut:vcutN 0 1 cap=if cap=1 then 0 else 0+1:=by rw[qcutN]
  have hsb1:vsubN (1+nN) 1=nN:=by rw[qsubN];simp only;omega
  have hcp:nN≤vsubN cap 1:=by rw[qsubN];simp only;omega
  rw[←hcut] at hvm;obtain⟨o1,ho1⟩:∃o1,o1=vcutN 0 1 cap:=⟨_,rfl⟩;rw[←ho1] at hvm;obtain⟨c1,hc1⟩:∃c1,c1=vsubN cap 1:=⟨_,rfl⟩;rw[←hc1] at hcp;have hbs1:=hbs c1 hcp;have hnt:vnotB true=false:=by rw[qnotB];rfl
  have hnf:vnotB false=true:=by rw[qnotB];rfl
  cbv;rw[ebl,e0];cbv;rw[haddq,hlnb,hgd,←hh0,ewh,e128];refine⟨⟨by omega,by omega⟩,⟨by omega⟩,⟨by omega⟩,?_⟩
  cbv;rw[ebl,es2,hz1];cbv;rw[e128'];cbv;rw[ea1,htn1,←ho1,hsb1,←hc1];refine⟨⟨by((try simp only[nc] at *);omega),by((try simp only[nc] at *);omega)⟩,⟨by omega,by((try simp only[nc] at *);omega)⟩,?_⟩
  refine ka (ρ:=[(0,.n o1)]) hbs1 ⟨by rfl,by rfl,by rfl,by cbv;exact⟨hvm,trivial⟩⟩ ?_
  rintro v H R js ⟨rfl,⟨hres,rfl,rfl⟩|⟨L,c2,hres,rfl,rfl⟩⟩
  ·cbv;rw[hnf];cbv;have hno:∀l,¬RW l:=fun l h=>by
    obtain⟨t,h1,_⟩:=(hRW l).1 h;rw[hres] at h1;cases h1
   exact⟨[0],.tup [.val (.slice none 0 0),.lit .i64 0,.lit .i64 11],[.ro .u8 b],rfl,rfl,rfl,rfl,⟨rfl,trivial⟩,rfl,.inr (.inl ⟨hnsh0,hno,rfl,rfl⟩)⟩
  ·have hec:=hends L c2 c2 hres (Nat.le_refl _);have hRW':∀l,RW l↔OE L l:=fun l=>by
    rw[hRW,hres];exact⟨fun⟨t,h1,h2⟩=>by rw[Option.some.injEq] at h1;subst h1;exact h2,fun h=>⟨_,rfl,h⟩⟩
   obtain⟨Ln,hLn⟩:∃Ln,Ln=L.length:=⟨_,rfl⟩;rw[←hLn] at hec ⊢
   generalize OE L=OK at *;cbv;refine ka (ρ:=[(1,.z)]) hec ⟨by rfl,by rfl,by rfl,by cbv⟩ ?_
   rintro v H R js3 ⟨rfl,⟨l,c3,hok,rfl,rfl⟩|⟨hno,l3,c3,rfl,rfl|⟨n3,rfl⟩⟩⟩
   ·obtain⟨ll,hll⟩:∃ll,ll=l.length:=⟨_,rfl⟩;rw[←hll];cbv;rw[hnt];cbv;rw[ea1];subst hll;exact⟨[0,1],.tup [.slice 1 .z 1 l.length c3,.int .i64 n1,.lit .i64 0],[.ro .u8 b,.buf 5 .u8 l c3],rfl,rfl,rfl,rfl,⟨rfl,rfl,trivial⟩,rfl,.inr (.inr ⟨hnsh0,l,c3,(hRW' l).2 hok,rfl,rfl⟩)⟩
   ·cbv;rw[hnf];cbv;exact⟨[0],.tup [.val (.slice none 0 0),.lit .i64 0,.lit .i64 11],[.ro .u8 b],rfl,rfl,rfl,rfl,⟨rfl,trivial⟩,rfl,.inr (.inl ⟨hnsh0,fun l h=>hno l ((hRW' l).1 h),rfl,rfl⟩)⟩
   ·cbv;rw[hnf];cbv;exact⟨[0],.tup [.val (.slice none 0 0),.lit .i64 0,.lit .i64 11],[.ro .u8 b],rfl,rfl,rfl,rfl,⟨rfl,trivial⟩,rfl,.inr (.inl ⟨hnsh0,fun l h=>hno l ((hRW' l).1 h),rfl,rfl⟩)⟩
theorem RdW.uniq {F:Nat} {b l l':List Int} (h:RdW F b l) (h':RdW F b l'):l=l':=by
 obtain⟨t,h1,h2⟩:=h;obtain⟨t',h3,h4⟩:=h';rw[h1,Option.some.injEq] at h3;subst h3;exact h2.uniq h4
open Classical in
noncomputable def rdw (c:List Int):Option (List Int):=if h:¬jB c∧∃l,RdW 256 c l then some h.2.choose else none
theorem kie {c l:List Int} (h:¬jB c) (hl:RdW 256 c l):rdw c=some l:=by
 have hh:¬jB c∧∃l,RdW 256 c l:=⟨h,l,hl⟩;unfold rdw;rw[dif_pos hh,RdW.uniq hh.2.choose_spec hl]
theorem kmL {c l:List Int} (h:rdw c=some l):¬jB c∧RdW 256 c l:=by
 unfold rdw at h;split at h
 ·rename_i hh;rw[Option.some.injEq] at h;rw[←h];exact⟨hh.1,hh.2.choose_spec⟩
 ·cases h
inductive koZ where
 |bad (e:Int)
 |keep (L:List Int) (u:Int)
 |rep (x:Int) (n:Nat) (u:Int)
 |own (L l:List Int) (u:Int)
def kept (u:Int):Option (List Int)→koZ
 |none=>.bad 11
 |some L=>.keep L u
def owned (l:List Int) (u:Int):Option (List Int)→koZ
 |none=>.bad 11
 |some L=>.own L l u
theorem kjb {a b k:Nat} (hb:b<2^k) (h:a*2^k+b<18446744073709551616):bV .or .u64 ((a*2^k:Nat):Int) (b:Int)=((a*2^k+b:Nat):Int):=by
 have e:a*2^k |||b=a*2^k+b:=by rw[←Nat.shiftLeft_eq,←Nat.shiftLeft_add_eq_or_of_lt hb]
 have h1:a*2^k<18446744073709551616:=by omega
 have h2:b<18446744073709551616:=by omega
 have hw:∀x:Nat,x<18446744073709551616→IntKind.u64.wrap (x:Int)=x:=fun x hx=>wrap_u64 (by omega) (by omega)
 show IntKind.u64.wrap ((BitVec.ofInt 64 ((a*2^k:Nat):Int) |||BitVec.ofInt 64 (b:Int)).toNat:Int)=_
 rw[BitVec.toNat_or,BitVec.ofInt_natCast,BitVec.ofInt_natCast,BitVec.toNat_ofNat,BitVec.toNat_ofNat,Nat.mod_eq_of_lt h1,Nat.mod_eq_of_lt h2,e,hw _ h]
theorem kgA {a k:Nat} (hk:k<64) (h:a*2^k<18446744073709551616):bV .shl .u64 (a:Int) (k:Int)=((a*2^k:Nat):Int):=by
 show IntKind.u64.wrap ((a:Int)*2^min (k:Int).toNat IntKind.u64.bits)=_
 rw[show min (k:Int).toNat IntKind.u64.bits=k by show min (k:Int).toNat 64=k;omega,show(a:Int)*2^k=((a*2^k:Nat):Int) by push_cast;rfl];exact wrap_u64 (by omega) (by omega)
def PkF (F b t s:Nat):Prop:=(F=0∧b=3∧t=10∧s=1)∨(F=1∧b=3∧t=10∧s=4)∨(F=2∧b=4∧t=14∧s=4)∨(F=3∧b=5∧t=18∧s=4)
def kjQ (K F N L t:Nat):Nat:=K+F*4+N*16+L*2^(4+t)
theorem PkF.num {F b t s K N L:Nat} (h:PkF F b t s) (hK:K<4) (hN:N<2^t) (hL:L<2^t) :
    kjQ K F N L t<18446744073709551616 ∧
    bV .or .u64 (bV .or .u64 (bV .or .u64 (IntKind.u64.wrap (K:Int)) (bV .shl .u64 (IntKind.u64.wrap (F:Int)) 2)) (bV .shl .u64 (IntKind.u64.wrap (N:Int)) 4))
      (bV .shl .u64 (IntKind.u64.wrap (L:Int)) (IntKind.u64.wrap (bV .add .i64 4 (t:Int))))=((kjQ K F N L t:Nat):Int):=by
  have hF:F<4∧t≤18:=by unfold PkF at h;omega
  have ht:2^t≤2^18:=Nat.pow_le_pow_right (by decide) hF.2;have ht4:2^(4+t)=16*2^t:=by rw[Nat.pow_add]
  have hLt:L*2^(4+t)≤2^18*(16*2^18):=Nat.mul_le_mul (by omega) (by omega);have w:∀x:Nat,x<18446744073709551616→IntKind.u64.wrap (x:Int)=x:=fun x hx=>wrap_u64 (by omega) (by omega)
  have a1:bV .add .i64 4 (t:Int)=((4+t:Nat):Int):=by rw[kh (by omega) (by omega)];omega
  have s1:bV .shl .u64 (F:Int) 2=((F*2^2:Nat):Int):=kgA (k:=2) (by decide) (by omega);have s2:bV .shl .u64 (N:Int) 4=((N*2^4:Nat):Int):=kgA (k:=4) (by decide) (by omega);have s3:bV .shl .u64 (L:Int) ((4+t:Nat):Int)=((L*2^(4+t):Nat):Int):=kgA (by omega) (by omega);have o1:bV .or .u64 (K:Int) ((F*2^2:Nat):Int)=((F*2^2+K:Nat):Int):=by rw[kbJ rfl];exact kjb (by omega) (by omega)
  have o2:bV .or .u64 ((F*2^2+K:Nat):Int) ((N*2^4:Nat):Int)=((N*2^4+(F*2^2+K):Nat):Int):=by rw[kbJ rfl];exact kjb (by omega) (by omega)
  have o3:bV .or .u64 ((N*2^4+(F*2^2+K):Nat):Int) ((L*2^(4+t):Nat):Int)=((L*2^(4+t)+(N*2^4+(F*2^2+K)):Nat):Int):=by
    rw[kbJ rfl];exact kjb (by omega) (by omega)
  refine⟨by unfold kjQ;omega,?_⟩
  rw[a1,w K (by omega),w F (by omega),w N (by omega),w L (by omega),w (4+t) (by omega),s1,s2,s3,o1,o2,o3];unfold kjQ;congr 1;omega
theorem gL {a b:List Int} {i:Nat} (h:i<a.length):(a++b).getD i 0=a.getD i 0:=by
 rw[List.getD_eq_getElem?_getD,List.getD_eq_getElem?_getD,List.getElem?_append_left h]
def q5 (l d:List Int):Prop:=(∀c∈d,kR c)∧1≤d.length∧d.length≤129∧∀rest,rdw (d++rest)=some l∧1+hnW (d++rest)=d.length
theorem kmM {l:List Int} {M:Nat} (hl:∀c∈l,kR c) (hW:Wt l M):OkE (l.take (l.length-1)) l:=by
 obtain⟨h1,h2,h3,h4,h5,h6,h7⟩:=id hW;obtain⟨n,hn⟩:∃n,l.length=n+1:=⟨l.length-1,by omega⟩;have hlt:(l.take (l.length-1)).length=n:=by rw[List.length_take];omega
 have hg:∀i,i<n→(l.take (l.length-1)).getD i 0=l.getD i 0:=fun i hi=>by
  rw[List.getD_eq_getElem?_getD,List.getD_eq_getElem?_getD,List.getElem?_take,if_pos (by omega)]
 have hsm:∀i,i≤n→sm (l.take (l.length-1)) i=sm l i:=by
  intro i;induction i with
  |zero=>intro _;rfl
  |succ i ih=>intro hi;rw[sm,sm,ih (by omega),hg i (by omega)]
 obtain⟨x,hx⟩:∃x,l.getD n 0=x:=⟨_,rfl⟩;have hx8:=qH hl n;rw[show l.length-1=n by omega] at h3;have hxM:=hW.le n (by omega);rw[hx] at h3 hx8 hxM;obtain⟨k,hk⟩:∃k:Nat,x=(k:Int)+1:=⟨(x-1).toNat,by omega⟩;have hs:smA (l.take (l.length-1))=2^M-2^k:=by
  unfold smA;rw[hlt,hsm n (Nat.le_refl _)];rw[hn,sm,hx] at h6;have:pw x=2^k:=by rw[knT (L:=k+1) (by omega) (by omega)];rfl
  omega
 obtain⟨M',rfl⟩:∃M',M=M'+1:=⟨M-1,by omega⟩;have hpk:(2:Int)^k≤2^M':=by exact_mod_cast Nat.pow_le_pow_right (by decide:1≤2) (show k≤M' by omega)
 have hpk0:(0:Int)<2^k:=Int.pow_pos (by decide);have hps:(2:Int)^(M'+1)=2^M'*2:=Int.pow_succ _ _;have hbl:kB (smA (l.take (l.length-1)))=M'+1:=by rw[hs];exact kgf (by omega) (by omega)
 refine⟨by rw[hlt];omega,fun i hi=>?_,by rw[hs];omega,⟨k,?_,?_⟩,_,hW⟩
 ·rw[hlt] at hi;rw[hg i hi];exact h4 i (by omega)
 ·rw[hbl,hs,show((M':Int)+1).toNat=M'+1 by omega];omega
 ·rw[←hk,←hx];apply List.ext_getElem
  ·simp;omega
  ·intro i hi1 hi2;rw[List.getElem_append];split
   ·rw[List.getElem_take]
   ·rename_i hge;have:i=n:=by rw[hlt] at hge;omega
    subst this;simp[List.getD_eq_getElem?_getD,List.getElem?_eq_getElem hi1]
theorem kfT {l d:List Int} {M:Nat} (hl:∀c∈l,kR c) (hW:Wt l M) (hn:l.length≤129) (hd:∀c∈d,kR c) (hdl:d.length=1+l.length / 2) (h0:d.getD 0 0=127+((l.length:Int)-1)) (hnib:∀i,i<l.length-1→kcm d i=l.getD i 0):q5 l d:=by
 have h2:=hW.1;refine⟨hd,by omega,by omega,fun rest=>?_⟩
 have g0:(d++rest).getD 0 0=127+((l.length:Int)-1):=by rw[gL (by omega),h0]
 have hhn:hnW (d++rest)=((l.length / 2:Nat):Int):=by unfold hnW;rw[g0,if_pos (by omega)];omega
 refine⟨kie (fun h=>?_) ⟨l.take (l.length-1),?_,kmM hl hW⟩,by rw[hhn];omega⟩
 ·unfold jB at h;rw[hhn] at h;rcases h with h|h<;>simp only[List.length_append,List.length_cons] at h<;>omega
 ·unfold kid;rw[g0,if_pos (by omega)];congr 1
  rw[show(127+((l.length:Int)-1)-127).toNat=l.length-1 by omega];apply List.ext_getElem
  ·rw[kcZ,List.length_take];omega
  ·intro i h1 h3;rw[kcZ] at h1;have hi:kcm (d++rest) i=kcm d i:=by
    unfold kcm;rw[gL (by omega)]
   simp only[kaG,List.getElem_map,List.getElem_range,hi,hnib i h1,List.getElem_take];rw[List.getD_eq_getElem?_getD,List.getElem?_eq_getElem (by omega)];rfl
theorem kif {l b:List Int} {M:Nat} (hl:∀c∈l,kR c) (hW:Wt l M) (hb:∀x∈b,isByte x) (hbl:b.length≤127) (hbs:bst 256 b=some (l.take (l.length-1))):q5 l ((b.length:Int)::b):=by
 refine⟨fun c hc=>?_,by simp,by simp;omega,fun rest=>?_⟩
 ·rcases List.mem_cons.1 hc with rfl|hc
  ·unfold kR;omega
  ·have:=hb c hc;unfold isByte at this;unfold kR;omega
 have g0:((b.length:Int)::b++rest).getD 0 0=b.length:=rfl;have hhn:hnW ((b.length:Int)::b++rest)=b.length:=by unfold hnW;rw[g0,if_neg (by omega)]
 refine⟨kie (fun h=>?_) ⟨l.take (l.length-1),?_,kmM hl hW⟩,by rw[hhn];simp;omega⟩
 ·unfold jB at h;rw[hhn] at h;rcases h with h|h<;>simp only[List.length_append,List.length_cons] at h<;>omega
 ·unfold kid;rw[g0,if_neg (by omega),Int.toNat_natCast];rw[show(((b.length:Int)::b++rest).drop 1).take b.length=b by simp];exact hbs
set_option maxRecDepth 100000
def nb2 (l:List Int) (n k:Nat):Int:=16*l.getD (2*k) 0+(if 2*k+1<n then l.getD (2*k+1) 0 else 0)
def ke7 (l:List Int) (n j:Nat):List Int:=(127+(n:Int))::(List.range j).map (nb2 l n)
theorem kig (l:List Int) (n j:Nat):(ke7 l n j).length=j+1:=by simp[ke7]
theorem klb (l:List Int) (n j:Nat):ke7 l n (j+1)=ke7 l n j++[nb2 l n j]:=by simp[ke7,List.range_succ]
theorem kmN (l:List Int) (n j k:Nat) (h:k<j):(ke7 l n j).getD (1+k) 0=nb2 l n k:=by
  rw[Nat.add_comm,List.getD_eq_getElem?_getD];simp[ke7,h]
theorem klc {l:List Int} {M n:Nat} (hl:∀c∈l,kR c) (hW:Wt l M) (hn:l.length=n+1) (hn2:n≤128):q5 l (ke7 l n ((n+1) / 2)):=by
  have h11:∀i,l.getD i 0≤11:=fun i=>by
    by_cases h:i<l.length
    · exact hW.2.2.2.1 i h
    · rw[List.getD_eq_getElem?_getD,List.getElem?_eq_none (by omega)];decide
  have h0:=kck hl;refine kfT hl hW (by omega) (fun c hc=>?_) (by rw[kig,hn];omega) (by rw[hn];show(127+(n:Int))=_;omega) (fun i hi=>?_)
  · rcases List.mem_cons.1 hc with rfl|hc
    · unfold kR;omega
    · obtain⟨k,_,rfl⟩:=List.mem_map.1 hc
      have a1:=h11 (2*k);have a2:=h11 (2*k+1);have a3:=h0 (2*k);have a4:=h0 (2*k+1);unfold kR nb2;split<;>omega
  · unfold kcm
    rw[kmN l n _ _ (by omega)];have a1:=h11 (2*(i / 2));have a2:=h11 (2*(i / 2)+1);have a3:=h0 (2*(i / 2));have a4:=h0 (2*(i / 2)+1);unfold nb2;split
    · rename_i he
      rw[show i=2*(i / 2) by omega];simp only[Nat.mul_div_cancel_left _ (show 0<2 by decide)];split<;>omega
    · rename_i he
      rw[if_pos (by omega)];have:l.getD i 0=l.getD (2*(i / 2)+1) 0:=by congr 1;omega
      rw[this];omega
theorem knx {x:Int} (h:0≤x∧x≤11):bV .shl .u8 x 4=16*x:=by
  have:∀n:Fin 12,bV .shl .u8 (n.val:Int) 4=16*(n.val:Int):=by decide
  have:=this ⟨x.toNat,by omega⟩;simp only[Int.toNat_of_nonneg h.1] at this;exact this
theorem koo {x y:Int} (h:0≤x∧x≤11) (k:0≤y∧y≤11):bV .or .u8 (16*x) y=16*x+y:=by
  have:∀n m:Fin 12,bV .or .u8 (16*(n.val:Int)) (m.val:Int)=16*(n.val:Int)+(m.val:Int):=by decide
  have:=this ⟨x.toNat,by omega⟩ ⟨y.toNat,by omega⟩;simp only[Int.toNat_of_nonneg h.1,Int.toNat_of_nonneg k.1] at this;exact this
theorem kgB (l:List Int) (cap:Nat) (hl:∀c∈l,kR c) (hlen:l.length≤140737488355328) (hW:∀M,¬Wt l M) :
    Con Try.prog 17 [.slice 0 .z 1 l.length cap] [.ro .u8 l] (fun v H R=>v=.tup [.val (.slice none 0 0),.int .i64 50]∧H=[.ro .u8 l]∧R=[]):=by
  have hsz:=kcU l cap 0 hl hlen (.inr ⟨hW,rfl⟩);refine kw (kV 1 (by simp) (kH (kl kD koD ?_)))
  intro _ vc _ _ _ _ _ _ _ _ _ _ _ _ _ _ _ _ _ _ _ _ _ qc _ _ _ _ _ _ _ _ _ _ _ _ _ _ _ _ _ _ _;have hm:=kD;generalize Try.prog=P at *;generalize hn:l.length=n at *;have d1:vc .eql 0 0=true:=by rw[qc,kJ]
  cbv;refine ka (ρ:=[(0,.z)]) hsz ⟨by rfl,by rfl,by rfl,by cbv;exact⟨⟨⟨by omega,fun i _=>by rw[Nat.zero_add]⟩⟩,trivial⟩⟩ ?_
  rintro v H R js ⟨rfl,rfl,rfl⟩;cbv;rw[d1];cbv
theorem kih (l:List Int) (cap M:Nat) (hl:∀c∈l,kR c) (hW:Wt l M) (hcap:l.length≤cap) :
    Con Try.prog 17 [.slice 0 .z 1 l.length cap] [.ro .u8 l] (fun v H R=>R=[] ∧
      ((130≤l.length∧kgy (l.take (l.length-1))∧v=.tup [.val (.slice none 0 0),.int .i64 0]∧H=[.ro .u8 l]) ∨
       ∃d c',q5 l d∧d.length≤c'∧v=.tup [.slice 1 .z 1 d.length c',.int .i64 0]∧H=[.ro .u8 l,.buf 5 .u8 d c'])):=by
  have hsz:=kcU l cap M hl (by have:=hW.2.1;omega) (.inl ⟨M,hW,rfl⟩);obtain⟨n,hn⟩:∃n,l.length=n+1:=⟨l.length-1,by have:=hW.1;omega⟩;have hn255:n≤255:=by have:=hW.2.1;omega
  have hM1:=hW.pos;have htk:(l.take n).length=n:=by rw[List.length_take];omega
  have htg:∀i,i<n→(l.take n).getD i 0=l.getD i 0:=fun i hi=>by
    rw[List.getD_eq_getElem?_getD,List.getD_eq_getElem?_getD,List.getElem?_take,if_pos hi]
  have hts:=fun c=>kgz (l.take n) c (fun c hc=>hl c (List.mem_of_mem_take hc)) (fun i hi=>by
    rw[htk] at hi;rw[htg i hi];exact hW.2.2.2.1 i (by omega)) (by omega)
  have hdo:=fun h=>klc hl hW hn h
  have hds:∀b:List Int,bst 256 b=some (l.take n)→b.length≤127→(∀x∈b,isByte x)→q5 l ((b.length:Int)::b):=fun b h1 h2 h3=>kif hl hW h3 h2 (by rw[show l.length-1=n by omega];exact h1)
  have hlr:∀i,i<n→0≤l.getD i 0∧l.getD i 0≤11:=fun i hi=>⟨kck hl i,hW.2.2.2.1 i (by omega)⟩
  rw[show l.length-1=n by omega];rw[htk] at hts;rw[hn] at hsz hcap ⊢
  have hos:=klb l n;have hol:=kig l n;have hnb:∀k,nb2 l n k=16*l.getD (2*k) 0+(if 2*k+1<n then l.getD (2*k+1) 0 else 0):=fun _=>rfl
  have ho0:ke7 l n 0=[127+(n:Int)]:=rfl;have hview:kiO 0 (l.take n) l:=⟨by omega,fun i hi=>by
    rw[htk] at hi;rw[Nat.zero_add];exact htg i hi⟩
  generalize l.take n=TK at *;generalize hW2:q5 l=DO at *;generalize kgy=NT at *;generalize ke7 l n=OW at *;generalize nb2 l n=NB at *;obtain⟨mI,hmI⟩:∃mI:Int,mI=M:=⟨_,rfl⟩;rw[←hmI] at hsz;obtain⟨n1,hn1⟩:∃n1,n1=n+1:=⟨_,rfl⟩;rw[←hn1] at hsz hn hcap ⊢
  clear hW;refine kw (ju (kH (kl kD koD ?_)))
  intro vb vc vw vtoN vofN vaddN _ _ _ _ vgd _ vln _ vsub vonto _ _ _ _ _ hw qb qc qw qtoN qofN qaddN _ _ _ _ qgd _ qln _ qsub qonto _ _ _ _ _;have hm:=kD;generalize Try.prog=P at *;have hto:∀i:Nat,vtoN (i:Int)=i:=fun i=>by simp only[qtoN,Int.toNat_natCast]
  have hadd0:∀i,vaddN 0 i=i:=fun i=>by simp only[qaddN,Nat.zero_add]
  have hgd:∀l i,vgd l i=l.getD i 0:=fun l i=>by simp only[qgd]
  have hvln:vln l=n1:=by simp only[qln,hn]
  have d1:vc .eql mI 0=false:=by rw[qc,ky];omega
  obtain⟨n1I,hn1I⟩:∃x:Int,x=n1:=⟨_,rfl⟩;obtain⟨nI,hnI⟩:∃x:Int,x=n:=⟨_,rfl⟩;have en1:vofN n1=n1I:=by rw[qofN,hn1I]
  have en:vofN n=nI:=by rw[qofN,hnI]
  have es:vb .sub .i64 n1I 1=nI:=by rw[qb,ku (by omega) (by omega)];omega
  have htn:vtoN nI=n:=by rw[hnI];exact hto n
  have hnc:0≤nI∧nI≤(cap:Int):=by omega
  have hnr:0≤nI∧nI≤255:=by omega
  have hncap:n≤cap:=by omega
  cbv;refine ka (ρ:=[(0,.z)]) hsz ⟨by rfl,by rfl,by rfl,by cbv;exact⟨⟨⟨by omega,fun i _=>by rw[Nat.zero_add]⟩⟩,trivial⟩⟩ ?_
  rintro v H R js ⟨rfl,rfl,rfl⟩;cbv;rw[d1];cbv;rw[en1,es,htn];rw[en];refine⟨⟨hnc⟩,?_⟩
  by_cases h128:n≤128
  · have hlq:vc .leq nI 128=true:=by rw[qc,kay];((try simp only[nc] at *);omega)
    have hdo:=hdo h128;have h127:vb .add .i64 127 nI=127+nI:=by rw[qb,kh (by((try simp only[nc] at *);omega)) (by((try simp only[nc] at *);omega))]
    have hw8:vw .u8 (127+nI)=127+nI:=by rw[qw];show(127+nI) % 256=_;((try simp only[nc] at *);omega)
    obtain⟨o0,ho0'⟩:∃x,x=OW 0:=⟨_,rfl⟩;have hnI':(127:Int)+nI=127+(n:Int):=by((try simp only[nc] at *);omega)
    obtain⟨a7,ha7⟩:∃a,a=(127:Int)+nI:=⟨_,rfl⟩;rw[←hnI',←ho0',←ha7] at ho0;rw[←ha7] at h127 hw8;have hstp:∀j,2*j<n→vb .shl .u8 (l.getD (2*j) 0) 4=16*l.getD (2*j) 0∧(2*j+1<n→vb .or .u8 (16*l.getD (2*j) 0) (l.getD (2*j+1) 0)=NB j)∧(¬2*j+1<n→16*l.getD (2*j) 0=NB j):=fun j hj=>by
      refine⟨by rw[qb];exact knx (hlr _ hj),fun h=>?_,fun h=>?_⟩
      · rw[qb,koo (hlr _ hj) (hlr _ h),hnb,if_pos h]
      · rw[hnb,if_neg h];omega
    clear hts hds hnb hlr hview;cbv;rw[hlq];cbv;rw[en,h127,hw8,←ho0];refine WX.cv (Cv.intsB 1 1 (by rfl) (by rw[ho0];rfl) (Cv.here ?_))
    refine kv (α:=Int×Nat×List Int×Nat) ([7]++(List.range' 23 28)) [1] (fun(k,m,o,c)=>[(6,.int .i64 k),(5,.slice 1 .z 1 m c)]) (fun(k,m,o,c)=>[(1,.buf 5 .u8 o c)])
      (fun(k,m,o,c)=>∃j:Nat,k=((2*j:Nat):Int)∧j≤(n+1) / 2∧o=OW j∧m=j+1∧m≤c) (fun(k,_)=>n+2-k.toNat) hw hm ?_ ?_
    · refine Cv.genAt [6] [] (Cv.fold ([7]++(List.range' 23 28)) 2 [1] (by exact Nat.le_refl _) (by exact Nat.le_of_ble_eq_true rfl) (by rfl) (by cbv) ?_)
      intro js;exact⟨(_,_,_,_),⟨0,rfl,Nat.zero_le _,ho0',rfl,Nat.le_refl _⟩,js,rfl⟩
    · rintro⟨k,m,o,c⟩ js ⟨j,hk,hj,ho,hm1,hmc⟩
      by_cases hlt:2*j<n
      · have hz:vc .lss k nI=true:=by rw[qc,ko];((try simp only[nc] at *);omega)
        obtain⟨k1,hk1⟩:∃k1:Int,k1=((2*j+1:Nat):Int):=⟨_,rfl⟩;have ek1:vb .add .i64 k 1=k1:=by(try simp only[nc] at *);rw[qb,kh (by omega) (by omega)];omega
        obtain⟨k2,hk2⟩:∃k2:Int,k2=((2*(j+1):Nat):Int):=⟨_,rfl⟩;have ek2:vb .add .i64 k 2=k2:=by(try simp only[nc] at *);rw[qb,kh (by omega) (by omega)];omega
        have hmu:∀_:Unit,n+2-k2.toNat<n+2-k.toNat:=fun _=>by((try simp only[nc] at *);omega)
        have htk:vtoN k=2*j:=by rw[hk];exact hto _
        have htk1:vtoN k1=2*j+1:=by rw[hk1];exact hto _
        obtain⟨s1,s2,s3⟩:=hstp j hlt;obtain⟨kn,hkn⟩:∃kn,kn=2*j:=⟨_,rfl⟩;obtain⟨y,hy⟩:∃y,y=NB j:=⟨_,rfl⟩;obtain⟨x,hx⟩:∃x,x=l.getD (2*j) 0:=⟨_,rfl⟩;obtain⟨x16,hx16⟩:∃z,z=16*x:=⟨_,rfl⟩;have hgk:=hgd l (2*j);have hgk1:=hgd l (2*j+1);obtain⟨o2,ho2⟩:∃z,z=OW (j+1):=⟨_,rfl⟩;obtain⟨m2,hm2⟩:∃z,z=m+1:=⟨_,rfl⟩;have hosj:=hos j;rw[←ho2,←ho,←hy] at hosj;have holn:vln o=m:=by rw[qln,ho,hm1];exact hol j
        have hly:vln [y]=1:=by rw[qln];rfl
        have hont:vonto o m (vsub [y] 0 1)=o2:=by
          have e1:o.take m=o:=by rw[show m=o.length by rw[ho,hm1];exact(hol j).symm];exact List.take_length
          rw[hosj,qonto,qsub];simp[e1]
        have ham:vaddN m 1=m2:=by rw[qaddN,hm2]
        rw[←hx,←hy] at s2;rw[←hx,←hy] at s3;rw[←hx] at s1 hgk;rw[←hx16] at s1 s2 s3;have hkR:0≤k∧k<(n:Int):=by((try simp only[nc] at *);omega)
        have hj2:∀_:Unit,j+1≤(n+1) / 2:=fun _=>by omega
        have hm2':∀_:Unit,m2=j+1+1:=fun _=>by omega
        have hmm2:∀_:Unit,m+1=m2:=fun _=>hm2.symm
        have hlkn:2*j<n1:=by omega
        have hm300:m2≤1000:=by omega
        rw[←hkn] at htk hgk hlkn;by_cases hlt1:2*j+1<n
        · have hz1:vc .lss k1 nI=true:=by rw[qc,ko];((try simp only[nc] at *);omega)
          have s2:=s2 hlt1;have hk1R:0≤k1∧k1<(n:Int):=by((try simp only[nc] at *);omega)
          have hlkn1:2*j+1<n1:=by omega
          obtain⟨kn1,hkn1⟩:∃z,z=2*j+1:=⟨_,rfl⟩;rw[←hkn1] at htk1 hgk1 s2 hlkn1;clear hstp hos hol hdo;generalize l.getD kn1 0=x2 at *;cbv;rw[en,hz];cbv;rw[htk,hgk,s1,ek1,en,hz1];cbv;rw[ek1,htk1,hgk1,s2];refine⟨⟨hkR⟩,⟨by rw[hadd0,hvln];exact hlkn⟩,⟨by rw[hvln];exact hlkn⟩,⟨hk1R⟩,⟨by rw[hadd0,hvln];exact hlkn1⟩,⟨by rw[hvln];exact hlkn1⟩,⟨by rw[hadd0,hly];exact Nat.le_refl _⟩,⟨by rw[holn];exact Nat.le_refl _⟩,⟨Nat.le_refl _⟩,⟨by rw[ham];((try simp only[nc] at *);omega)⟩,?_⟩
          intro cx jv hle;have hle':m2≤cx:=by have:=hle.out;simp only at this;rw[ham] at this;exact this
          cbv;rw[hont,ham,ek2];refine Cv.fold ([7]++(List.range' 23 28)) 2 [1] (by exact Nat.le_refl _) (by exact Nat.le_of_ble_eq_true rfl) (by rfl) (by cbv) ?_
          intro js;exact⟨(_,_,_,_),⟨⟨j+1,hk2,hj2 (),ho2,hm2' (),hle'⟩,hmu ()⟩,js,rfl⟩
        · have hz1:vc .lss k1 nI=false:=by rw[qc,kb];((try simp only[nc] at *);omega)
          have s3:=s3 hlt1;rw[s3] at s1;clear hstp hos hol hdo;cbv;rw[en,hz];cbv;rw[htk,hgk,s1,ek1,en,hz1];cbv;refine⟨⟨hkR⟩,⟨by rw[hadd0,hvln];exact hlkn⟩,⟨by rw[hvln];exact hlkn⟩,⟨by rw[hadd0,hly];exact Nat.le_refl _⟩,⟨by rw[holn];exact Nat.le_refl _⟩,⟨Nat.le_refl _⟩,⟨by rw[ham];((try simp only[nc] at *);omega)⟩,?_⟩
          intro cx jv hle;have hle':m2≤cx:=by have:=hle.out;simp only at this;rw[ham] at this;exact this
          cbv;rw[hont,ham,ek2];refine Cv.fold ([7]++(List.range' 23 28)) 2 [1] (by exact Nat.le_refl _) (by exact Nat.le_of_ble_eq_true rfl) (by rfl) (by cbv) ?_
          intro js;exact⟨(_,_,_,_),⟨⟨j+1,hk2,hj2 (),ho2,hm2' (),hle'⟩,hmu ()⟩,js,rfl⟩
      · have hz:vc .lss k nI=false:=by rw[qc,kb];((try simp only[nc] at *);omega)
        have hjn:j=(n+1) / 2:=by omega
        rw[←hjn,←ho] at hdo;have hol2:o.length=m:=by rw[ho,hm1];exact hol j
        clear hstp hos hol;cbv;rw[en,hz];cbv;subst hol2;exact⟨[0,1],.tup [.slice 1 .z 1 o.length c,.lit .i64 0],[.ro .u8 l,.buf 5 .u8 o c],rfl,rfl,rfl,rfl,⟨rfl,rfl,trivial⟩,rfl,.inr ⟨o,c,hdo,hmc,rfl,rfl⟩⟩
  · have hlq:vc .leq nI 128=false:=by rw[qc,kaz];((try simp only[nc] at *);omega)
    have hts:=hts cap;cbv;rw[hlq];cbv;refine ka (ρ:=[(0,.z)]) hts ⟨by rfl,by rfl,by rfl,by cbv;exact⟨hview,trivial⟩⟩ ?_
    rintro v H R js ⟨rfl,⟨rfl,rfl,hno⟩|⟨b,c',hbc,rfl,rfl,h1,h2,h3⟩⟩
    · cbv
      exact⟨[0],.tup [.val (.slice none 0 0),.lit .i64 0],[.ro .u8 l],rfl,rfl,rfl,rfl,⟨rfl,trivial⟩,rfl,.inl ⟨by((try simp only[nc] at *);omega),hno,rfl,rfl⟩⟩
    · have hd:=hds b h1 h2 h3
      obtain⟨BL,hBL⟩:∃B,B=(b.length:Int)::b:=⟨_,rfl⟩;obtain⟨bm,hbm⟩:∃m,m=b.length+1:=⟨_,rfl⟩;have hBl:bm=BL.length:=by rw[hBL,hbm];rfl
      rw[←hbm] at hbc;rw[←hBL] at hd;rw[←hBL,←hbm];clear hBL hbm h1 h2 h3 hds;cbv;subst hBl;exact⟨[0,1],.tup [.slice 1 .z 1 BL.length c',.lit .i64 0],[.ro .u8 l,.buf 5 .u8 BL c'],rfl,rfl,rfl,rfl,⟨rfl,rfl,trivial⟩,rfl,.inr ⟨_,c',hd,hbc,rfl,rfl⟩⟩
theorem kmO {v most:Int} (h0:0≤most) (h1:most≤65):(ka5 v most).length≤7:=by
 have hb:kB most≤7:=by
  by_cases h:most=0
  ·rw[h];decide
  ·obtain⟨k,h2,h3,h4⟩:=jA (x:=most) (by omega);have:k≤6:=by
    apply Classical.byContradiction
    intro hk;have:(2:Int)^7≤2^k:=by exact_mod_cast Nat.pow_le_pow_right (by decide:1≤2) (by omega:7≤k)
    omega
   omega
 unfold ka5;(repeat' split)<;>rw[kg]<;>omega
theorem kii:∀(l:List Int) (o:Option Nat) (left:Int),(∀c∈l,0≤c)→left≤64→(wgo o l left).length≤9*l.length
 |[],o,left,_,_=>by cases o<;>simp[wgo]
 | c::l,none,left,h,hl=>by
  have hc:=h c (by simp);have h':∀c∈l,0≤c:=fun c hc=>h c (List.mem_cons_of_mem _ hc)
  have hp:km c=c:=by unfold km;rw[if_neg (by omega)]
  rw[wgo];split
  ·simp
  ·have h1:=kmO (v:=c+1) (most:=left+1) (by omega) (by omega);have h2:=kii l (if c=0 then some 0 else none) (left-km c) h' (by omega);rw[List.length_append,List.length_cons];omega
 | c::l,some k,left,h,hl=>by
  have hc:=h c (by simp);have h':∀c∈l,0≤c:=fun c hc=>h c (List.mem_cons_of_mem _ hc)
  have hp:km c=c:=by unfold km;rw[if_neg (by omega)]
  rw[wgo];split
  ·split
   ·have h2:=kii l (some 0) left h' hl;rw[List.length_append,kg,List.length_cons];omega
   ·have h2:=kii l (some (k+1)) left h' hl;rw[List.length_cons];omega
  ·split
   ·rw[List.length_append,kg,List.length_cons];simp;omega
   ·have h1:=kmO (v:=c+1) (most:=left+1) (by omega) (by omega);have h2:=kii l none (left-km c) h' (by omega);rw[List.length_append,List.length_append,kg,List.length_cons];omega
theorem kny {cs:List Int} (h0:∀c∈cs,0≤c) (h12:cs.length≤12):(pack (kZ cs 6)).length≤14:=by
 have h:=kii cs none (2^(6:Int).toNat) h0 (by decide);rw[kF];unfold kZ;rw[List.length_append,kg];omega
def kan (f:List Int) (g:Nat→Int):Nat→Int
 |0=>0
 |s+1=>kan f g s+f.getD s 0*g s
theorem kij (f:List Int) (g:Nat→Int) {x:Nat} (hx:x<f.length):∀n,kan (f.set x (f.getD x 0+1)) g n=kan f g n+(if x<n then g x else 0)
 |0=>by simp[kan]
 | n+1=>by
  rw[kan,kan,kij f g hx n];have hg:(f.set x (f.getD x 0+1)).getD n 0=if x=n then f.getD x 0+1 else f.getD n 0:=by
   rw[List.getD_eq_getElem?_getD,List.getElem?_set];by_cases e:x=n
   ·subst e;rw[if_pos rfl,if_pos hx,if_pos rfl];rfl
   ·rw[if_neg e,if_neg e,←List.getD_eq_getElem?_getD]
  rw[hg];by_cases e:x=n
  ·subst e;rw[if_pos rfl,if_neg (by omega),if_pos (by omega),Int.add_mul];omega
  ·rw[if_neg e];by_cases h:x<n
   ·rw[if_pos h,if_pos (by omega)];omega
   ·rw[if_neg h,if_neg (by omega)];omega
def qB (told:List Int) (g:Nat→Int):Nat→Int
 |0=>0
 |i+1=>qB told g i+g (told.getD i 0).toNat
theorem kjR {told:List Int} (g:Nat→Int) (h:∀i,i<told.length→0≤told.getD i 0∧told.getD i 0≤11):∀i,i≤told.length→kan (frq told i) g 12=qB told g i
 | 0,_=>by
  have:∀n,kan (List.replicate 12 0) g n=0:=fun n=>by
   induction n with
   |zero=>rfl
   |succ n ih=>
    rw[kan,ih,List.getD_eq_getElem?_getD,List.getElem?_replicate];split<;>simp
  exact this 12
 |i+1,hi=>by
  have hx:=h i (by omega);rw[frq,kij (frq told i) g (by rw[kcX];omega),kjR g h i (by omega),if_pos (by omega),qB]
def gam (s:Nat):Nat:=[1488,1444,1443,1365,1209,936,589,220].getD s 0
def pwN (s:Nat):Nat:=if s=0 then 0 else 2^(s-1)
def exN (s:Nat):Nat:=if s<2 then 1 else 0
def knz:Nat→Bool
 |0=>true
 |n+1=>(let s:=n / 256;let f:=n % 256;(2048).ble (f*pwN s)||(8*f*kap (1+(f+exN s)*52 / 257)).ble (41*f+f*pwN s+gam s))&&knz n
theorem knA:knz 3072=true:=by decide +kernel
theorem kik:∀(n m:Nat),m<n→knz n=true→2048≤m % 256*pwN (m / 256)∨8*(m % 256)*kap (1+(m % 256+exN (m / 256))*52 / 257)≤41*(m % 256)+m % 256*pwN (m / 256)+gam (m / 256)
 |0,m,h,_=>by omega
 | n+1,m,h,hc=>by
  rw[knz,Bool.and_eq_true] at hc;by_cases e:m=n
  ·subst e;have h1:=hc.1;simp only[Bool.or_eq_true] at h1;rcases h1 with h1|h1
   ·exact .inl (Nat.le_of_ble_eq_true h1)
   ·exact .inr (Nat.le_of_ble_eq_true h1)
  ·exact kik n m (by omega) hc.2
theorem kpz {s f:Nat} (hs:s<12) (hf:f<256) (hp:f*pwN s≤2047):8*f*kap (1+(f+exN s)*52 / 257)≤41*f+f*pwN s+gam s:=by
 have h:=kik 3072 (256*s+f) (by omega) knA;rw[show(256*s+f) / 256=s by omega,show(256*s+f) % 256=f by omega] at h;omega
def knB:Nat→Bool
 |0=>true
 |n+1=>(let c:=n / 64;let d:=n % 64;(d+1).ble c||(kap d).ble (kap c))&&knB n
theorem knC:knB 4096=true:=by decide +kernel
theorem kil:∀(n m:Nat),m<n→knB n=true→m % 64<m / 64∨kap (m % 64)≤kap (m / 64)
 |0,m,h,_=>by omega
 | n+1,m,h,hc=>by
  rw[knB,Bool.and_eq_true] at hc;by_cases e:m=n
  ·subst e;have h1:=hc.1;simp only[Bool.or_eq_true] at h1;rcases h1 with h1|h1
   ·exact .inl (Nat.le_of_ble_eq_true h1)
   ·exact .inr (Nat.le_of_ble_eq_true h1)
  ·exact kil n m (by omega) hc.2
theorem kmP {c d:Nat} (h:c≤d) (hd:d<64):kap d≤kap c:=by
 have h1:=kil 4096 (64*c+d) (by omega) knC;rw[show(64*c+d) / 64=c by omega,show(64*c+d) % 64=d by omega] at h1;omega
end Go.Proofs.Ytlclleihoampdaa
