import Derived.Test.YtlclleihoampdaaA2
import Derived.Test.YtlclleihoampdaaED
import Derived.Test.YtlclleihoampdaaA1
set_option linter.unusedVariables false
set_option linter.unusedSimpArgs false
namespace Go.Proofs.Ytlclleihoampdaa
open Go Go.Sx Go.Proofs
set_option maxRecDepth 10000
set_option maxHeartbeats 40000000
def qJ (l b:List Int) (j:Nat):Prop:=∀i,i<j→Sy l (b.getD (b.length-1-i) 0).toNat
theorem kpz (l b:List Int) (cap cap2:Nat) (M:Nat) (hl:∀c∈l,kv c) (hb:∀c∈b,kv c) (hW:Wt l M) (hbl:b.length≤131072) :
    Con Try.prog 47 [.slice 0 .z 1 l.length cap,.slice 1 .z 1 b.length cap2] [.ro .u8 l,.ro .u8 b]
      (fun v H R=>R=[]∧∃L c',H=[.ro .u8 l,.ro .u8 b,.free,.free,.free,.free,.free,.free,.buf 5 .u8 L c'] ∧
        ((v=.tup [.val (.slice none 0 0),.int .i64 2]∧¬qJ l b b.length) ∨
         (v=.tup [.slice 8 .z 1 L.length c',.int .i64 0]∧L=pack (pb l M b b.length++[1])∧qJ l b b.length))):=by
  have hsz:=qy l cap M hl (by have:=hW.2.1;omega) (.inl ⟨M,hW,rfl⟩);have hput:∀j c,j<b.length→Con Try.prog 29 [.ptr 0 .z 2 0,.int .u64 (xA l (b.getD (b.length-1-j) 0).toNat),.int .i64 (nA l M (b.getD (b.length-1-j) 0).toNat)]
      [.one 71 [.slice 1 .z 1 (pack (pb l M b j)).length c,.int .i64 (pb l M b j).length],.buf 5 .u8 (pack (pb l M b j)) c]
      (fun v H R=>v=.int .i64 (qv (nA l M (b.getD (b.length-1-j) 0).toNat))∧R=[1]∧∃c',H=[.one 71 [.slice 1 .z 1 (pack (pb l M b (j+1))).length c',.int .i64 (pb l M b (j+1)).length],.buf 5 .u8 (pack (pb l M b (j+1))) c']):=by
    intro j c hj;have h1:=kox hW (b.getD (b.length-1-j) 0).toNat;have h2:=kf7 hW b j;have:=koa (pb l M b j) c (xA l (b.getD (b.length-1-j) 0).toNat) (nA l M (b.getD (b.length-1-j) 0).toNat) ⟨h1.1,by omega⟩ (keb l M b j) (by omega);rw[kqD hW] at this;exact this
  have hclose:=fun c=>kgR (pb l M b b.length) c (keb l M b b.length) (by have:=kf7 hW b b.length;omega)
  have hsy:∀j,(nA l M (b.getD (b.length-1-j) 0).toNat=0↔¬Sy l (b.getD (b.length-1-j) 0).toNat):=fun j=>(kbZ hW _).2.2
  have hpb0:pack (pb l M b 0)=[]:=(show pack []=[] by decide);have hpl0:((pb l M b 0).length:Int)=0:=rfl;have hpbl:=kf7 hW b;have hall0:qJ l b 0:=fun i hi=>by omega
  have halls:∀j,qJ l b j→Sy l (b.getD (b.length-1-j) 0).toNat→qJ l b (j+1):=fun j h1 h2 i hi=>by
    by_cases e:i=j
    · subst e;exact h2
    · exact h1 i (by omega)
  have hallb:∀j,j<b.length→¬Sy l (b.getD (b.length-1-j) 0).toNat→¬qJ l b b.length:=fun j h1 h2 h3=>h2 (h3 j h1)
  have hgb:=jm hb;refine kj (kiQ [2,3,4,5,6,7] (km (kg kr kri ?_)))
  intro vb vc vw vtoN vofN vaddN _ _ _ _ vgd _ vln _ _ _ _ _ _ vnotB _ hw qb qc qw qtoN qofN qaddN _ _ _ _ qgd _ qln _ _ _ _ _ _ qnotB _;have f16:=krp;have f33:=kp5;have hm:=kr;generalize Try.prog=P at *;have hM1:=hW.pos;have hM11:=hW.2.2.2.2.2.2;have hn2:=hW.1;have hn256:=hW.2.1;have hA0:=kpt l;have hB0:=kpu l M;have hgs0:=kkv l hl;have hgss:=kbs l;have hgsn:=fun L hL=>@kcn l L hL
  have hgsr:=fun L i h1 h2 h3=>@kdq l M hW L i h1 h2 h3
  have hgd:=fun L i h1 h2=>@kkw l M hW L h1 h2 i
  have hAs:=fun L i h=>@kpv l L i hl h
  have hBs:=fun L i h=>@kpw l M L i hl h
  have hAp:=fun L i h1 h2 h3=>@kqz l L i h1 h2 h3
  have hBp:=fun L i h1 h2 h3=>@kqA l M L i h1 h2 h3
  have hAn:=kpx l;have hBn:=kpy l M;have hAa:=kqB hW;have hBa:=kqC hW;have hge:=jm hl;clear hW;generalize pb l M b=PB at *;generalize qJ l b=ALL at *;generalize Sy l=SY at *;generalize hpk:pack=PK at *;generalize qv=PE at *;generalize gs l=GS at *;generalize wA l=WA at *;generalize wB l M=WB at *;generalize xA l=XA at *;generalize nA l M=NA at *;obtain⟨mI,hmI⟩:∃mI:Int,mI=M:=⟨_,rfl⟩;rw[←hmI] at hsz;generalize hn:l.length=n at *;generalize hlb:b.length=lb at *;have hto:∀i:Nat,vtoN (i:Int)=i:=fun i=>by simp only[qtoN,Int.toNat_natCast]
  have hadd0:∀i,vaddN 0 i=i:=fun i=>by simp only[qaddN,Nat.zero_add]
  have hvln:vln l=n:=by simp only[qln,hn]
  have hvlb:vln b=lb:=by simp only[qln,hlb]
  have hvgd:∀l i,vgd l i=l.getD i 0:=fun l i=>by simp only[qgd]
  have hnf1:vnotB true=false:=by simp only[qnotB];rfl
  have d1:vc .eql mI 0=false:=by rw[qc,kx];omega
  have d2:vc .gtr (vofN lb) 131072=false:=by rw[qc,ku,qofN];simp only;omega
  cbv;refine ka (ρ:=[(0,.z)]) hsz ⟨by rfl,by rfl,by rfl,by cbv;exact⟨⟨⟨by omega,fun i _=>by rw[Nat.zero_add]⟩⟩,trivial⟩⟩ ?_
  rintro v H R js ⟨rfl,rfl,rfl⟩;cbv;rw[d1];cbv;rw[d2];cbv;refine kcg hw hm f16 (by rfl) ?_
  cbv;refine⟨fun _=>rfl,fun _=>rfl,?_⟩
  intro js;refine kap (by rfl) (by rfl) (by cbv;exact⟨fun _=>rfl,trivial⟩) (by cbv;exact⟨fun _=>rfl,trivial⟩) (by rfl) ?_
  refine kcg hw hm f33 (by rfl) ?_
  cbv;refine WX.cv (Cv.arrEq 2 (fun m=>[.int .u64 (WA 1 0 m),.int .i64 (WB 1 0 m)]) (by rfl) (by intro i;rw[hA0,hB0];rfl) (Cv.here ?_))
  obtain⟨m1,hm1⟩:∃m1:Int,m1=mI+1:=⟨_,rfl⟩;have em1:vb .add .i64 mI 1=m1:=by(try simp only[nc] at *);rw[qb,kh (by omega) (by omega)];omega
  have en:vofN n=(n:Int):=by simp only[qofN]
  refine kl (α:=Int×Int×(Nat→Int)×(Nat→Int)) [6,7,8,9,10,11,12,13,14,15,16,17,18,19,20,21,22,23,24,25,26,27,28,29,30,31,32,33,34,35,36,37,38,39,40,41,42,43,44,45,46] [] (fun(k,x,_,_)=>[(5,.int .i64 k),(4,.int .i64 x)]) (fun(_,_,A,B)=>[(2,.arr 160 2 256 (fun m=>[.int .u64 (A m),.int .i64 (B m)]))])
    (fun(k,x,A,B)=>∃L:Nat,k=L∧1≤L∧L≤M+2∧x=GS L 0∧A=WA L 0∧B=WB L 0) (fun(k,_)=>M+2-k.toNat) hw hm ?_ ?_
  · refine Cv.genAt [5,4] [] (Cv.fold [6,7,8,9,10,11,12,13,14,15,16,17,18,19,20,21,22,23,24,25,26,27,28,29,30,31,32,33,34,35,36,37,38,39,40,41,42,43,44,45,46] 7 [] (by exact Nat.le_refl _) (by exact Nat.le_of_ble_eq_true rfl) (by rfl) (by cbv) ?_)
    intro js;refine⟨(_,_,_,_),?_,js,rfl⟩
    exact⟨1,rfl,by omega,by omega,hgs0.symm,rfl,rfl⟩
  · rintro⟨k,x,A,B⟩ js ⟨L,hk,hL1,hL2,hx,hA,hB⟩
    cbv;rw[em1];generalize hz1:vc .leq k m1=z1;cases z1
    rotate_left
    · rw [qc, kbR] at hz1
      have hlt:L≤M+1:=by((try simp only[nc] at *);omega)
      have hgn:=hgsn L hL1;have hAn1:=hAn L;have hBn1:=hBn L;obtain⟨k1,hk1⟩:∃k1:Int,k1=((L+1:Nat):Int):=⟨_,rfl⟩;have ek:vb .add .i64 k 1=k1:=by(try simp only[nc] at *);rw[qb,kh (by omega) (by omega)];omega
      have hmu:∀_:Unit,M+2-k1.toNat<M+2-k.toNat:=fun _=>by((try simp only[nc] at *);omega)
      cbv;rw[en];refine kl (α:=Int×Int×(Nat→Int)×(Nat→Int)) ([6,7]++[17,18,19,20,21,22,23,24,25,26,27,28,29,30,31,32,33,34,35,36,37,38,39,40,41,42,43,44,45,46]) [] (fun(q,x,_,_)=>[(16,.int .i64 q),(4,.int .i64 x)]) (fun(_,_,A,B)=>[(2,.arr 160 2 256 (fun m=>[.int .u64 (A m),.int .i64 (B m)]))])
        (fun(q,x,A,B)=>∃i:Nat,q=i∧i≤n∧x=GS L i∧A=WA L i∧B=WB L i) (fun(q,_)=>n-q.toNat) hw hm ?_ ?_
      · refine Cv.genAt [16,4] [] (Cv.fold ([6,7]++[17,18,19,20,21,22,23,24,25,26,27,28,29,30,31,32,33,34,35,36,37,38,39,40,41,42,43,44,45,46]) 7 [] (by exact Nat.le_refl _) (by exact Nat.le_of_ble_eq_true rfl) (by rfl) (by cbv) ?_)
        intro js;refine⟨(_,_,_,_),?_,js,rfl⟩
        exact⟨0,rfl,by omega,hx,hA,hB⟩
      · rintro⟨q,x,A,B⟩ js2 ⟨i,hq,hi,hx,hA,hB⟩
        cbv;generalize hz2:vc .lss q (n:Int)=z2;cases z2
        · rw[qc,ke] at hz2
          obtain rfl:i=n:=by((try simp only[nc] at *);omega)
          cbv;rw[ek];refine Cv.fold [6,7,8,9,10,11,12,13,14,15,16,17,18,19,20,21,22,23,24,25,26,27,28,29,30,31,32,33,34,35,36,37,38,39,40,41,42,43,44,45,46] 7 [] (by exact Nat.le_refl _) (by exact Nat.le_of_ble_eq_true rfl) (by rfl) (by cbv) ?_
          intro js;refine⟨(_,_,_,_),?_,js,rfl⟩
          exact⟨⟨L+1,hk1,by omega,by omega,by rw[hx,hgn],by rw[hA,hAn1],by rw[hB,hBn1]⟩,hmu ()⟩
        · rw[qc,kf] at hz2
          have hlt2:i<n:=by((try simp only[nc] at *);omega)
          have hti:vtoN q=i:=by rw[hq];exact hto i
          have hinR:0≤q∧q<(n:Int):=by((try simp only[nc] at *);omega)
          obtain⟨q1,hq1⟩:∃q1:Int,q1=((i+1:Nat):Int):=⟨_,rfl⟩;have eq1:vb .add .i64 q 1=q1:=by(try simp only[nc] at *);rw[qb,kh (by omega) (by omega)];omega
          have hmu2:∀_:Unit,n-q1.toNat<n-q.toNat:=fun _=>by((try simp only[nc] at *);omega)
          have hx0:=hge i;have hgs1:=hgss L i;have hr1:=hgsr L i hL1 hlt (by omega);have hr2:=hgsr L (i+1) hL1 hlt (by omega);have hdv:=hgd L i hL1 hlt;have hAs1:=hAs L i;have hBs1:=hBs L i;have hAp1:=hAp L i hlt2 hL1;have hBp1:=hBp L i hlt2 hL1;have hp11:(2:Int)^M≤2^11:=qj hM11;cbv;rw[hti,hadd0,hvgd];refine⟨⟨hinR⟩,⟨by omega⟩,⟨by omega⟩,?_⟩
          generalize hxi:l.getD i 0=y at *;have ew:vw .i64 y=y:=by rw[qw];exact wrap_i64 (by omega) (by omega)
          rw[ew];generalize hz3:vc .neq y k=z3;cases z3
          rotate_left
          · rw[qc,jl] at hz3
            have hne:y≠(L:Int):=by((try simp only[nc] at *);omega)
            rw[if_neg hne] at hgs1;cbv;rw[eq1];refine Cv.fold ([6,7]++[17,18,19,20,21,22,23,24,25,26,27,28,29,30,31,32,33,34,35,36,37,38,39,40,41,42,43,44,45,46]) 7 [] (by exact Nat.le_refl _) (by exact Nat.le_of_ble_eq_true rfl) (by rfl) (by cbv) ?_
            intro js;refine⟨(_,_,_,_),?_,js,rfl⟩
            exact⟨⟨i+1,hq1,hlt2,by rw[hx,hgs1];omega,by rw[hA,hAs1 hne],by rw[hB,hBs1 hne]⟩,hmu2 ()⟩
          · rw[qc,ql] at hz3
            have hyL:y=(L:Int):=by(try simp only[nc] at *);omega
            rw[if_pos hyL] at hgs1;have hAp2:=hAp1 hyL;have hBp2:=hBp1 hyL;obtain⟨k0,hk0⟩:∃k0:Int,k0=((L-1:Nat):Int):=⟨_,rfl⟩;have ek0:vb .sub .i64 k 1=k0:=by(try simp only[nc] at *);rw[qb,ky (by omega) (by omega)];omega
            have ew0:vw .u64 k0=k0:=by(try simp only[nc] at *);rw[qw];exact wrap_u64 (by omega) (by omega)
            obtain⟨x1,hx1⟩:∃x1:Int,x1=GS L i / 2^(L-1):=⟨_,rfl⟩;have hpL:(0:Int)<2^(L-1):=p2 _;have hpL2:(2:Int)^(L-1)≤2^11:=qj (by omega);have hx1r:0≤x1∧x1≤2048:=by
              rw[hx1];have a1:=Int.ediv_nonneg hr1.1 (Int.le_of_lt hpL);have a2:=Int.ediv_le_self (2^(L-1)) hr1.1;constructor
              · exact a1
              · (try simp only[nc] at *);omega
            have es:vb .shr .i64 x k0=x1:=by
              rw[qb,jO (by show k0≤64;(try simp only[nc] at *);omega),hx1,hx,hk0,Int.toNat_natCast]
            have ew1:vw .u64 x1=x1:=by rw[qw];exact wrap_u64 (by omega) (by omega)
            obtain⟨n1,hn1⟩:∃n1:Int,n1=(M:Int)+1-L:=⟨_,rfl⟩;have en1:vb .sub .i64 m1 k=n1:=by(try simp only[nc] at *);rw[qb,ky (by omega) (by omega)];omega
            have hk00:0≤k0:=by((try simp only[nc] at *);omega)
            rw[←hx1] at hAp2;rw[←hn1] at hBp2;obtain⟨s1,hs1⟩:∃s1:Int,s1=2^(L-1):=⟨_,rfl⟩;have esl:vb .shl .i64 1 k0=s1:=by
              rw[qb,hs1,hk0];show IntKind.i64.wrap (1*2^(min (((L-1:Nat):Int).toNat) IntKind.i64.bits))=_
              rw[Int.toNat_natCast,show min (L-1) IntKind.i64.bits=L-1 by simp[IntKind.bits];omega,Int.one_mul];exact wrap_i64 (by omega) (by omega)
            obtain⟨x2,hx2⟩:∃x2:Int,x2=GS L (i+1):=⟨_,rfl⟩;have ex2:vb .add .i64 x s1=x2:=by
              have e:x+s1=x2:=by rw[hx2,hgs1,hx,hs1]
              rw[qb,kh (by(try simp only[nc] at *);omega) (by(try simp only[nc] at *);omega),e]
            cbv;rw[ek0,ew0,es,ew1,em1,en1];refine⟨⟨hk00⟩,?_⟩
            refine kaq hw hm (by rfl) ?_
            cbv;rw[hti,kiR,kiS];rw[←hA] at hAp2;rw[←hB] at hBp2;have hi256:i<256:=by omega
            refine⟨fun _=>rfl,⟨⟨hinR.1,by((try simp only[nc] at *);omega)⟩⟩,⟨hi256⟩,⟨hi256⟩,?_⟩
            intro js1;cbv;rw[hnf1];cbv;rw[ek0,ew0,esl,ex2,eq1];refine⟨⟨hk00⟩,?_⟩
            refine Cv.fold ([6,7]++[17,18,19,20,21,22,23,24,25,26,27,28,29,30,31,32,33,34,35,36,37,38,39,40,41,42,43,44,45,46]) 7 [] (by exact Nat.le_refl _) (by exact Nat.le_of_ble_eq_true rfl) (by rfl) (by cbv) ?_
            intro js;refine⟨(_,_,_,_),?_,js,rfl⟩
            exact⟨⟨i+1,hq1,hlt2,hx2,hAp2.symm,hBp2.symm⟩,hmu2 ()⟩
    · rw[qc,ka2] at hz1
      have hL:L=M+2:=by((try simp only[nc] at *);omega)
      subst hL;rw[hAa] at hA;rw[hBa] at hB;cbv;intro js1;cbv;refine⟨fun _=>rfl,?_⟩
      refine WX.cv (Cv.nilB 7 0 5 .u8 (by rfl) (by cbv;exact⟨fun _=>rfl,trivial⟩) (Cv.here ?_))
      cbv;have elb:vofN lb=(lb:Int):=by simp only[qofN]
      rw[elb];refine kl (α:=Int×Nat×Nat×Int×List Int) [34,35,36,37,38,39,40,41,42,43,44,45,46,47,48,49,50,51,52,53,54,55,56,57,58,59,60,61] [8] (fun(k,_,_,_,_)=>[(11,.int .i64 k)]) (fun(_,c,n1,m,L)=>[(7,.one 71 [.slice 8 .z 1 n1 c,.int .i64 m]),(8,.buf 5 .u8 L c)])
        (fun(k,c,n1,m,L)=>∃j:Nat,k=(lb:Int)-1-j∧j≤lb∧L=PK (PB j)∧n1=L.length∧m=(PB j).length∧ALL j) (fun(k,_)=>(k+1).toNat) hw hm ?_ ?_
      · refine Cv.genAt [11] [7] (Cv.fold [34,35,36,37,38,39,40,41,42,43,44,45,46,47,48,49,50,51,52,53,54,55,56,57,58,59,60,61] 9 [8] (by exact Nat.le_refl _) (by exact Nat.le_of_ble_eq_true rfl) (by rfl) (by cbv) ?_)
        intro js;refine⟨(_,_,_,_,_),?_,js,rfl⟩
        exact⟨0,by(try simp only[nc] at *);rw[qb,ky (by omega) (by omega)];omega,by omega,hpb0.symm,rfl,hpl0.symm,hall0⟩
      · rintro⟨k,c,n1,m,L⟩ js ⟨j,hk,hj,hL,hn1,hm2,hal⟩
        cbv;generalize hz4:vc .geq k 0=z4;cases z4
        · rw[qc,kO] at hz4
          obtain rfl:j=lb:=by((try simp only[nc] at *);omega)
          have hclose1:=hclose c;simp only[nc] at hm2 hclose1;rw[←hL,←hn1,←hm2] at hclose1;generalize hl3:PK (PB j++[1])=L3 at *;generalize hn3:L3.length=n3 at *;cbv;refine ka (ρ:=[(7,.z),(8,.z)]) hclose1 ⟨by rfl,by rfl,by rfl,by cbv;exact⟨fun _=>rfl,trivial⟩⟩ ?_
          rintro v H R js2 ⟨rfl,c',rfl,rfl⟩;cbv;subst hn3;exact⟨fun _=>rfl,L3,c',rfl,.inr ⟨rfl,rfl,hal⟩⟩
        · rw[qc,jb] at hz4
          have hjl:j<lb:=by((try simp only[nc] at *);omega)
          have hti:vtoN k=lb-1-j:=by
            have e:k=((lb-1-j:Nat):Int):=by((try simp only[nc] at *);omega)
            rw[e];exact hto _
          have hinR:0≤k∧k<(lb:Int):=by((try simp only[nc] at *);omega)
          have hput1:=hput j c hjl;have hsy1:=hsy j;have hs1:=halls j hal;have hb1:=hallb j hjl;have hy:=hgb (lb-1-j);obtain⟨ib,hib⟩:∃ib,ib=lb-1-j:=⟨_,rfl⟩;rw[←hib] at hti hput1 hsy1 hs1 hb1 hy;simp only[nc] at hm2 hput1;rw[←hL,←hn1,←hm2] at hput1;generalize hyy:b.getD ib 0=y at *;have hty:vtoN y=y.toNat:=by rw[qtoN]
          obtain⟨Y,hY⟩:∃Y,Y=y.toNat:=⟨_,rfl⟩;rw[←hY] at hty hput1 hsy1 hs1 hb1;have hY256:Y<256:=by omega
          have hyR:0≤y∧y<(256:Int):=by omega
          rw[←hA] at hput1;rw[←hB] at hput1 hsy1;cbv;rw[hti,hadd0,hvgd,hyy];refine⟨⟨hinR⟩,⟨by omega⟩,⟨by omega⟩,⟨hyR⟩,?_⟩
          rw[hty];refine⟨⟨hY256⟩,?_⟩
          have hlt':ib<vln b:=by omega
          generalize hz5:vc .eql (B Y) 0=z5;cases z5
          rotate_left
          · rw[qc,kF] at hz5
            have hbad:=hb1 (hsy1.1 hz5);cbv;exact⟨L,c,rfl,.inl ⟨rfl,hbad⟩⟩
          · rw[qc,kx] at hz5
            have hal2:=hs1 (Classical.not_not.1 (fun h=>hz5 (hsy1.2 h)));obtain⟨k1,hk1⟩:∃k1:Int,k1=(lb:Int)-1-((j+1:Nat):Int):=⟨_,rfl⟩;have ek1:vb .sub .i64 k 1=k1:=by(try simp only[nc] at *);rw[qb,ky (by omega) (by omega)];omega
            have hmu:∀_:Unit,(k1+1).toNat<(k+1).toNat:=fun _=>by((try simp only[nc] at *);omega)
            simp only[nc] at hput1;generalize hl3:PK (PB (j+1))=L3 at *;generalize hn3:L3.length=n3 at *;generalize hm3:((PB (j+1)).length:Int)=m3 at *;cbv;rw[hti,hadd0,hvgd,hyy,hty];repeat (first|refine And.intro ⟨hinR⟩ ?_|refine And.intro ⟨hyR⟩ ?_|refine And.intro ⟨hY256⟩ ?_|refine And.intro ⟨hlt'⟩ ?_)
            refine ka (ρ:=[(7,.z),(8,.z)]) hput1 ⟨by rfl,by rfl,by rfl,by cbv;exact⟨fun _=>rfl,trivial⟩⟩ ?_
            rintro v H R js2 ⟨rfl,rfl,c',rfl⟩;cbv;refine⟨fun _=>rfl,⟨⟨hlt'⟩,by rw[hvgd,hyy]⟩,⟨⟨hlt'⟩,by rw[hvgd,hyy]⟩,?_⟩
            rw[ek1];refine Cv.fold [34,35,36,37,38,39,40,41,42,43,44,45,46,47,48,49,50,51,52,53,54,55,56,57,58,59,60,61] 9 [8] (by exact Nat.le_refl _) (by exact Nat.le_of_ble_eq_true rfl) (by rfl) (by cbv) ?_
            intro js;refine⟨(_,_,_,_,_),?_,js,rfl⟩
            exact⟨⟨j+1,hk1,hjl,hl3.symm,hn3.symm,hm3.symm,hal2⟩,hmu ()⟩
theorem khD (b:List Int) (p:Int) (a:Nat):∀c,rd b p (a+c)=rd b p a*2^c+rd b (p-a) c
  |0=>by simp[rd]
  | c+1=>by
    rw[←Nat.add_assoc];simp only[rd];rw[khD b p a c,p2s,show p-1-((a+c:Nat):Int)=p-a-1-c by push_cast;omega,←Int.mul_assoc,Int.add_mul];omega
theorem kqE (b:List Int) (p:Int) (a c:Nat):rd b p (a+c) % 2^c=rd b (p-a) c:=by
  have h:=kar b (p-a) c;rw[khD,Int.add_comm,Int.add_mul_emod_self_right,Int.emod_eq_of_lt h.1 h.2]
theorem kqF (b:List Int) (p:Int) (a c:Nat):rd b p (a+c) / 2^c=rd b p a:=by
  have h:=kar b (p-a) c;have hp:=p2 c;rw[khD,Int.add_comm,Int.add_mul_ediv_right _ _ (by omega),Int.ediv_eq_zero_of_lt h.1 h.2];omega
open Classical in
noncomputable def dc (l:List Int) (t:Int):Nat:=if h:∃c,Dc l t c then h.choose else 0
theorem koy {l:List Int} (h:∀c∈l,kv c) {t:Int} {c:Nat} (hc:Dc l t c):dc l t=c:=by
  have he:∃c,Dc l t c:=⟨c,hc⟩;unfold dc;rw[dif_pos he];exact Dc.uniq h he.choose_spec hc
theorem kpA {l:List Int} {M:Nat} (h:∀c∈l,kv c) (hW:Wt l M) {t:Int} (h0:0≤t) (ht:t<2^M):Dc l t (dc l t):=by
  obtain⟨c,hc⟩:=Dc.ex h hW h0 ht;rw[koy h hc];exact hc
theorem Dc.sy {l:List Int} {t:Int} {c:Nat} (h:Dc l t c):Sy l c:=⟨h.1,h.2.1⟩
noncomputable def pos (l:List Int) (M:Nat) (b:List Int) (p:Int):Nat→Int
  |0=>p
  |j+1=>pos l M b p j-nA l M (dc l (rd b (pos l M b p j) M))
noncomputable def sym (l:List Int) (M:Nat) (b:List Int) (p:Int) (j:Nat):Nat:=dc l (rd b (pos l M b p j) M)
noncomputable def kdr (l:List Int) (M:Nat) (b:List Int) (p:Int) (j:Nat):List Int:=(List.range j).map fun i=>(sym l M b p i:Int)
theorem kf8 {l:List Int} {M:Nat} (h:∀c∈l,kv c) (hW:Wt l M) (b:List Int) (p:Int) (j:Nat):pos l M b p (j+1)=pos l M b p j-nA l M (sym l M b p j)∧1≤nA l M (sym l M b p j)∧nA l M (sym l M b p j)≤M ∧
    Dc l (rd b (pos l M b p j) M) (sym l M b p j)∧Sy l (sym l M b p j):=by
  have hr:=kar b (pos l M b p j) M;have hd:Dc l (rd b (pos l M b p j) M) (sym l M b p j):=kpA h hW hr.1 hr.2;have hn:=kbZ hW (sym l M b p j);refine⟨rfl,?_,hn.2.1,hd,hd.sy⟩
  have:¬nA l M (sym l M b p j)=0:=fun e=>hn.2.2.1 e hd.sy
  omega
theorem kjk {l:List Int} {M:Nat} (h:∀c∈l,kv c) (hW:Wt l M) (b:List Int) (p:Int) {i:Nat}:∀{j:Nat},i≤j→pos l M b p j+(j:Int)≤pos l M b p i+i
  | 0, hij => by obtain rfl:i=0:=by omega
                 exact Int.le_refl _
  | j + 1,hij=>by
    by_cases e:i=j+1
    · subst e;exact Int.le_refl _
    · have h1:=kjk h hW b p (i:=i) (j:=j) (by omega)
      have h2:=kf8 h hW b p j
      push_cast
      omega
theorem kf9 (l:List Int) (M:Nat) (b:List Int) (p:Int) (j:Nat):(kdr l M b p j).length=j:=by simp[kdr]
theorem kmH (l:List Int) (M:Nat) (b:List Int) (p:Int) (j:Nat):kdr l M b p (j+1)=kdr l M b p j++[(sym l M b p j:Int)]:=by simp[kdr,List.range_succ]
def TI (l:List Int) (M:Nat) (G:Int) (A B:Nat→Int):Prop:=∀t:Nat,(t:Int)<G→A t=dc l t∧B t=nA l M (dc l t)
theorem TI.zero (l:List Int) (M:Nat) (A B:Nat→Int):TI l M 0 A B:=fun t ht=>by omega
theorem TI.put {l:List Int} {M:Nat} (h:∀c∈l,kv c) {A B:Nat→Int} {L i k t:Nat} (hn:i<l.length) (hL:1≤L) (hi:l.getD i 0=L) (hk:(k:Int)<2^(L-1)) (ht:(t:Int)=gs l L i+k)
    (hT:TI l M (gs l L i+k) A B):TI l M (gs l L i+((k+1:Nat):Int)) (qC A t i) (qC B t ((M:Int)+1-L)):=by
  have hw:wn l i=L:=by unfold wn;omega
  have hD:Dc l t i:=⟨hn,by omega,by rw[hw];omega,by rw[hw];omega⟩;have hsy:Sy l i:=hD.sy;intro u hu;rw[ja,ja];by_cases e:u=t
  · subst e
    rw[if_pos rfl,if_pos rfl,koy h hD];refine⟨rfl,?_⟩
    unfold nA;rw[if_pos hsy,hw]
  · rw[if_neg e,if_neg e]
    exact hT u (by push_cast at hu;omega)
theorem kmI (l b:List Int) (cap cap2:Nat) (M:Nat) (N:Int) (hl:∀c∈l,kv c) (hb:∀c∈b,isByte c) (hW:Wt l M) (hN:0≤N∧N≤131072) (hbl:b.length≤140737488355328) (hlast:b.getLastD 0≠0) (p0:Int)
    (hp0:p0=8*(b.length-1)+(len8 (b.getLastD 0)-1)) (hp1:0≤p0∧p0≤8*b.length) :
    Con Try.prog 89 [.slice 0 .z 1 l.length cap,.slice 1 .z 1 b.length cap2,.int .i64 N] [.ro .u8 l,.ro .u8 b]
      (fun v H R=>R=[]∧∃L c',H=[.ro .u8 l,.ro .u8 b,.free,.free,.free,.free,.free,.free,.free,.free,.buf 5 .u8 L c'] ∧
        ((v=.tup [.val (.slice none 0 0),.int .i64 11]∧pos l M b p0 N.toNat≠0) ∨
         (v=.tup [.slice 10 .z 1 L.length c',.int .i64 0]∧L=kdr l M b p0 N.toNat∧pos l M b p0 N.toNat=0∧L.length≤c'))):=by
  have hsz:=qy l cap M hl (by have:=hW.2.1;omega) (.inl ⟨M,hW,rfl⟩);have hnew:=kiZ b cap2 hlast hb hbl;rw[←hp0] at hnew;have hbits:=fun cap p n hp=>kiX b cap p n hb hp (by omega)
  have hleft:=fun cap p=>kiY b b.length cap p
  have hps:=fun j=>kf8 hl hW b p0 j
  have hpd:=fun i j h=>@kjk l M hl hW b p0 i j h
  have hol:=kf9 l M b p0;have hos:=kmH l M b p0;have ho0:kdr l M b p0 0=[]:=rfl;have hpos0:pos l M b p0 0=p0:=rfl;have hrb:=fun p n=>kar b p n
  have hra:=fun p a c=>khD b p a c
  have hrm:=fun p a c=>kqE b p a c
  have hr0:∀p,rd b p 0=0:=fun _=>rfl
  have hti0:=fun A B=>TI.zero l M A B
  have htip:=fun A B L i k t=>@TI.put l M hl A B L i k t
  have htid:∀G A B,TI l M G A B→∀t:Nat,(t:Int)<G→A t=dc l t∧B t=nA l M (dc l t):=fun G A B h=>h
  have hfl:∀p:Int,-1099511627776≤p→kas p=p:=fun p h=>by unfold kas;rw[if_neg (by omega)]
  have hcl:∀n:Int,0≤n→n≤11→qu n=n.toNat:=fun n h1 h2=>by unfold qu;rw[if_neg (by omega),if_neg (by omega)]
  have hsymd:∀j,sym l M b p0 j=dc l (rd b (pos l M b p0 j) M):=fun _=>rfl
  have hdl:∀j,sym l M b p0 j<l.length:=fun j=>(hps j).2.2.2.1.1
  refine kj (kiQ [2,3,4,5,6,7,8,9] (kA 11 (by simp) (km (kg kr kpf ?_))))
  intro vb vc vw vtoN vofN vaddN _ _ _ _ vgd _ vln _ vsub vonto _ _ _ vnotB _ hw qb qc qw qtoN qofN qaddN _ _ _ _ qgd _ qln _ qsub qonto _ _ _ qnotB _;have f16:=krp;have f33:=kp5;have hm:=kr;generalize Try.prog=P at *;have hM1:=hW.pos;have hM11:=hW.2.2.2.2.2.2;have hn2:=hW.1;have hn256:=hW.2.1;have hgs0:=kkv l hl;have hgss:=kbs l;have hgsn:=fun L hL=>@kcn l L hL
  have hgsr:=fun L i h1 h2 h3=>@kdq l M hW L i h1 h2 h3
  have hgd:=fun L i h1 h2=>@kkw l M hW L h1 h2 i
  have hgf:gs l (M+2) 0=2^M:=by rw[kcn l (by omega),khB hW _ (by omega)]
  have hge:=jm hl;clear hW;generalize kdr l M b p0=OUT at *;generalize sym l M b p0=SYM at *;generalize pos l M b p0=POS at *;generalize dc l=DC at *;generalize nA l M=NA at *;generalize TI l M=TIl at *;generalize Dc l=DCl at *;generalize Sy l=SY at *;generalize rd b=RD at *;generalize qu=CL at *;generalize kas=FL at *;generalize gs l=GS at *;obtain⟨mI,hmI⟩:∃mI:Int,mI=M:=⟨_,rfl⟩;rw[←hmI] at hsz;generalize hn:l.length=n at *;generalize hlb:b.length=lb at *;have hto:∀i:Nat,vtoN (i:Int)=i:=fun i=>by simp only[qtoN,Int.toNat_natCast]
  have hadd0:∀i,vaddN 0 i=i:=fun i=>by simp only[qaddN,Nat.zero_add]
  have hvln:vln l=n:=by simp only[qln,hn]
  have hvlb:vln b=lb:=by simp only[qln,hlb]
  have hvgd:∀l i,vgd l i=l.getD i 0:=fun l i=>by simp only[qgd]
  have hnf1:vnotB true=false:=by simp only[qnotB];rfl
  have d1:vc .eql mI 0=false:=by rw[qc,kx];omega
  have d2:vc .lss N 0=false:=by rw[qc,ke];omega
  have d3:vc .gtr N 131072=false:=by rw[qc,ku];omega
  cbv;refine ka (ρ:=[(0,.z)]) hsz ⟨by rfl,by rfl,by rfl,by cbv;exact⟨⟨⟨by omega,fun i _=>by rw[Nat.zero_add]⟩⟩,trivial⟩⟩ ?_
  rintro v H R js ⟨rfl,rfl,rfl⟩;cbv;rw[d1];cbv;rw[d2];cbv;rw[d3];cbv;refine ka (ρ:=[(1,.z)]) hnew ⟨by rfl,by rfl,by rfl,by cbv;exact⟨⟨⟨by omega,fun i _=>by rw[Nat.zero_add]⟩⟩,trivial⟩⟩ ?_
  rintro v H R js ⟨rfl,rfl,cb,rfl⟩;cbv;refine kcg hw hm f16 (by rfl) ?_
  cbv;refine⟨fun _=>rfl,fun _=>rfl,?_⟩
  intro js;refine kap (by rfl) (by rfl) (by cbv;exact⟨fun _=>rfl,trivial⟩) (by cbv;exact⟨fun _=>rfl,trivial⟩) (by rfl) ?_
  refine kcg hw hm f33 (by rfl) ?_
  cbv;refine WX.cv (Cv.arrEq 5 (fun m=>[.int .u8 0,.int .i64 0]) (by rfl) (by intro i;rfl) (Cv.here ?_))
  obtain⟨m1,hm1⟩:∃m1:Int,m1=mI+1:=⟨_,rfl⟩;have em1:vb .add .i64 mI 1=m1:=by(try simp only[nc] at *);rw[qb,kh (by omega) (by omega)];omega
  have en:vofN n=(n:Int):=by simp only[qofN]
  refine kl (α:=Int×Int×(Nat→Int)×(Nat→Int)) [6,7,8,9,10,11,12,13,14,15,16,17,18,19,20,21,22,23,24,25,26,27,28,29,30,31,32,33,34,35,36,37,38,39,40,41,42,43,44,45,46] [] (fun(k,x,_,_)=>[(5,.int .i64 k),(4,.int .i64 x)]) (fun(_,_,A,B)=>[(5,.arr 210 2 2048 (fun m=>[.int .u8 (A m),.int .i64 (B m)]))])
    (fun(k,x,A,B)=>∃L:Nat,k=L∧1≤L∧L≤M+2∧x=GS L 0∧TIl (GS L 0) A B) (fun(k,_)=>M+2-k.toNat) hw hm ?_ ?_
  · refine Cv.genAt [5,4] [] (Cv.fold [6,7,8,9,10,11,12,13,14,15,16,17,18,19,20,21,22,23,24,25,26,27,28,29,30,31,32,33,34,35,36,37,38,39,40,41,42,43,44,45,46] 10 [] (by exact Nat.le_refl _) (by exact Nat.le_of_ble_eq_true rfl) (by rfl) (by cbv) ?_)
    intro js;refine⟨(_,_,_,_),?_,js,rfl⟩
    exact⟨1,rfl,by omega,by omega,hgs0.symm,by rw[hgs0];exact hti0 _ _⟩
  · rintro ⟨k, x, A,B⟩ js ⟨L,hk,hL1,hL2,hx,hT⟩
    cbv;rw[em1];generalize hz1:vc .leq k m1=z1;cases z1
    rotate_left
    · rw [qc, kbR] at hz1
      have hlt:L≤M+1:=by((try simp only[nc] at *);omega)
      have hgn:=hgsn L hL1;obtain⟨k1,hk1⟩:∃k1:Int,k1=((L+1:Nat):Int):=⟨_,rfl⟩;have ek:vb .add .i64 k 1=k1:=by(try simp only[nc] at *);rw[qb,kh (by omega) (by omega)];omega
      have hmu:∀_:Unit,M+2-k1.toNat<M+2-k.toNat:=fun _=>by((try simp only[nc] at *);omega)
      cbv;rw[en];refine kl (α:=Int×Int×(Nat→Int)×(Nat→Int)) ([6,7]++[17,18,19,20,21,22,23,24,25,26,27,28,29,30,31,32,33,34,35,36,37,38,39,40,41,42,43,44,45,46]) [] (fun(q,x,_,_)=>[(16,.int .i64 q),(4,.int .i64 x)]) (fun(_,_,A,B)=>[(5,.arr 210 2 2048 (fun m=>[.int .u8 (A m),.int .i64 (B m)]))])
        (fun(q,x,A,B)=>∃i:Nat,q=i∧i≤n∧x=GS L i∧TIl (GS L i) A B) (fun(q,_)=>n-q.toNat) hw hm ?_ ?_
      · refine Cv.genAt [16,4] [] (Cv.fold ([6,7]++[17,18,19,20,21,22,23,24,25,26,27,28,29,30,31,32,33,34,35,36,37,38,39,40,41,42,43,44,45,46]) 10 [] (by exact Nat.le_refl _) (by exact Nat.le_of_ble_eq_true rfl) (by rfl) (by cbv) ?_)
        intro js;refine⟨(_,_,_,_),?_,js,rfl⟩
        exact⟨0,rfl,by omega,hx,hT⟩
      · rintro⟨q,x,A,B⟩ js2 ⟨i,hq,hi,hx,hT⟩
        cbv;generalize hz2:vc .lss q (n:Int)=z2;cases z2
        · rw[qc,ke] at hz2
          obtain rfl:i=n:=by((try simp only[nc] at *);omega)
          cbv;rw[ek];refine Cv.fold [6,7,8,9,10,11,12,13,14,15,16,17,18,19,20,21,22,23,24,25,26,27,28,29,30,31,32,33,34,35,36,37,38,39,40,41,42,43,44,45,46] 10 [] (by exact Nat.le_refl _) (by exact Nat.le_of_ble_eq_true rfl) (by rfl) (by cbv) ?_
          intro js;refine⟨(_,_,_,_),?_,js,rfl⟩
          exact⟨⟨L+1,hk1,by omega,by omega,by rw[hx,hgn],by rw[hgn];exact hT⟩,hmu ()⟩
        · rw [qc, kf] at hz2
          have hlt2:i<n:=by((try simp only[nc] at *);omega)
          have hti:vtoN q=i:=by rw[hq];exact hto i
          have hinR:0≤q∧q<(n:Int):=by((try simp only[nc] at *);omega)
          obtain⟨q1,hq1⟩:∃q1:Int,q1=((i+1:Nat):Int):=⟨_,rfl⟩;have eq1:vb .add .i64 q 1=q1:=by(try simp only[nc] at *);rw[qb,kh (by omega) (by omega)];omega
          have hmu2:∀_:Unit,n-q1.toNat<n-q.toNat:=fun _=>by((try simp only[nc] at *);omega)
          have hx0:=hge i;have hgs1:=hgss L i;have hr1:=hgsr L i hL1 hlt (by omega);have hr2:=hgsr L (i+1) hL1 hlt (by omega);have hdv:=hgd L i hL1 hlt;have hp11:(2:Int)^M≤2^11:=qj hM11;cbv;rw[hti,hadd0,hvgd];refine⟨⟨hinR⟩,⟨by omega⟩,⟨by omega⟩,?_⟩
          generalize hxi:l.getD i 0=y at *;have ew:vw .i64 y=y:=by rw[qw];exact wrap_i64 (by omega) (by omega)
          rw[ew];generalize hz3:vc .neq y k=z3;cases z3
          rotate_left
          · rw[qc,jl] at hz3
            have hne:y≠(L:Int):=by((try simp only[nc] at *);omega)
            rw[if_neg hne] at hgs1;cbv;rw[eq1];refine Cv.fold ([6,7]++[17,18,19,20,21,22,23,24,25,26,27,28,29,30,31,32,33,34,35,36,37,38,39,40,41,42,43,44,45,46]) 10 [] (by exact Nat.le_refl _) (by exact Nat.le_of_ble_eq_true rfl) (by rfl) (by cbv) ?_
            intro js;refine⟨(_,_,_,_),?_,js,rfl⟩
            exact⟨⟨i+1,hq1,hlt2,by rw[hx,hgs1];omega,by rw[hgs1,Int.add_zero];exact hT⟩,hmu2 ()⟩
          · rw[qc,ql] at hz3
            have hyL:y=(L:Int):=by(try simp only[nc] at *);omega
            rw[if_pos hyL] at hgs1;obtain⟨k0,hk0⟩:∃k0:Int,k0=((L-1:Nat):Int):=⟨_,rfl⟩;have ek0:vb .sub .i64 k 1=k0:=by(try simp only[nc] at *);rw[qb,ky (by omega) (by omega)];omega
            have ew0:vw .u64 k0=k0:=by(try simp only[nc] at *);rw[qw];exact wrap_u64 (by omega) (by omega)
            obtain⟨x1,hx1⟩:∃x1:Int,x1=GS L i / 2^(L-1):=⟨_,rfl⟩;have hpL:(0:Int)<2^(L-1):=p2 _;have hpL2:(2:Int)^(L-1)≤2^11:=qj (by omega);have hx1r:0≤x1∧x1≤2048:=by
              rw[hx1];have a1:=Int.ediv_nonneg hr1.1 (Int.le_of_lt hpL);have a2:=Int.ediv_le_self (2^(L-1)) hr1.1;constructor
              · exact a1
              · (try simp only[nc] at *);omega
            have es:vb .shr .i64 x k0=x1:=by
              rw[qb,jO (by show k0≤64;(try simp only[nc] at *);omega),hx1,hx,hk0,Int.toNat_natCast]
            have ew1:vw .u64 x1=x1:=by rw[qw];exact wrap_u64 (by omega) (by omega)
            obtain⟨n1,hn1⟩:∃n1:Int,n1=(M:Int)+1-L:=⟨_,rfl⟩;have en1:vb .sub .i64 m1 k=n1:=by(try simp only[nc] at *);rw[qb,ky (by omega) (by omega)];omega
            have hk00:0≤k0:=by((try simp only[nc] at *);omega)
            obtain⟨s1,hs1⟩:∃s1:Int,s1=2^(L-1):=⟨_,rfl⟩;have esl:vb .shl .i64 1 k0=s1:=by
              rw[qb,hs1,hk0];show IntKind.i64.wrap (1*2^(min (((L-1:Nat):Int).toNat) IntKind.i64.bits))=_
              rw[Int.toNat_natCast,show min (L-1) IntKind.i64.bits=L-1 by simp[IntKind.bits];omega,Int.one_mul];exact wrap_i64 (by omega) (by omega)
            obtain⟨x2,hx2⟩:∃x2:Int,x2=GS L (i+1):=⟨_,rfl⟩;have ex2:vb .add .i64 x s1=x2:=by
              have e:x+s1=x2:=by rw[hx2,hgs1,hx,hs1]
              rw[qb,kh (by(try simp only[nc] at *);omega) (by(try simp only[nc] at *);omega),e]
            cbv;rw[ek0,ew0,es,ew1,em1,en1];refine⟨⟨hk00⟩,?_⟩
            refine kaq hw hm (by rfl) ?_
            have ed0:vb .sub .i64 mI n1=k0:=by(try simp only[nc] at *);rw[qb,ky (by omega) (by omega)];omega
            have efr:vb .shl .u64 x1 k0=x:=by
              have hb64:(2:Int)^(IntKind.u64).bits=18446744073709551616:=by decide
              have e:x1*2^k0.toNat=x:=by rw[hk0,Int.toNat_natCast,hx1,hx];exact hdv.symm
              rw[qb,kaL rfl hx1r.1 (by show k0≤64;(try simp only[nc] at *);omega) (by rw[e,hb64];(try simp only[nc] at *);omega),e]
            have es1u:vb .shl .u64 1 k0=s1:=by
              have hb64:(2:Int)^(IntKind.u64).bits=18446744073709551616:=by decide
              rw[qb,kaL rfl (by decide) (by show k0≤64;(try simp only[nc] at *);omega) (by rw[hk0,Int.toNat_natCast,hb64];omega),hk0,Int.toNat_natCast,hs1,Int.one_mul]
            have hs1r:1≤s1∧s1≤2048:=by rw[hs1];constructor<;>omega
            have htp:=fun A B k t=>htip A B L i k t hlt2 hL1 (by rw[hxi];exact hyL)
            have ewq:vw .u8 q=q:=by(try simp only[nc] at *);rw[qw];exact wrap_u8 (by omega) (by omega)
            rw[←hx] at htp hT;rw[←hs1] at htp;rw[←hn1] at htp;have hqi:q=(i:Int):=by((try simp only[nc] at *);omega)
            (try simp only[nc] at htp hqi)
            rw[←hqi] at htp;have hxs:x+s1=x2:=by rw[hx2,hgs1,hx,hs1]
            have hx2r:0≤x∧x2≤2048:=by rw[hx,hx2];constructor<;>((try simp only[nc] at *);omega)
            cbv;rw[ed0,ew0,efr,es1u];refine⟨fun _=>rfl,⟨hk00⟩,⟨hk00⟩,?_⟩
            refine kl (α:=Int×(Nat→Int)×(Nat→Int)) ([15]++[60,61,62,63,64,65,66,67,68,69,70,71]) [] (fun(kk,_,_)=>[(59,.int .u64 kk)]) (fun(_,A,B)=>[(5,.arr 210 2 2048 (fun m=>[.int .u8 (A m),.int .i64 (B m)]))])
              (fun(kk,A,B)=>∃kn:Nat,kk=kn∧kk≤s1∧TIl (x+kk) A B) (fun(kk,_)=>(s1-kk).toNat) hw hm ?_ ?_
            · refine Cv.genAt [59] [] (Cv.fold ([15]++[60,61,62,63,64,65,66,67,68,69,70,71]) 11 [] (by exact Nat.le_refl _) (by exact Nat.le_of_ble_eq_true rfl) (by rfl) (by cbv) ?_)
              intro js;refine⟨(_,_,_),?_,js,rfl⟩
              exact⟨0,rfl,by((try simp only[nc] at *);omega),by rw[Int.add_zero];exact hT⟩
            · rintro⟨kk,A,B⟩ js3 ⟨kn,hkk,hks,hT⟩
              cbv;generalize hz4:vc .lss kk s1=z4;cases z4
              rotate_left
              · rw[qc,kf] at hz4
                obtain⟨tt,htt⟩:∃tt,tt=x+kk:=⟨_,rfl⟩;obtain⟨tn,htn⟩:∃tn:Nat,tn=tt.toNat:=⟨_,rfl⟩;have ett:vb .add .u64 x kk=tt:=by rw[qb,htt];exact wrap_u64 (by((try simp only[nc] at *);omega)) (by((try simp only[nc] at *);omega))
                have htv:vtoN tt=tn:=by rw[qtoN,htn]
                have htR:0≤tt∧tt<(2048:Int):=by((try simp only[nc] at *);omega)
                have ht2:tn<2048:=by((try simp only[nc] at *);omega)
                obtain⟨kk1,hkk1⟩:∃kk1:Int,kk1=((kn+1:Nat):Int):=⟨_,rfl⟩;have ekk:vb .add .u64 kk 1=kk1:=by
                  have e:kk+1=kk1:=by((try simp only[nc] at *);omega)
                  rw[qb,←e];exact wrap_u64 (by((try simp only[nc] at *);omega)) (by((try simp only[nc] at *);omega))
                have hT2:=htp A B kn tn (by((try simp only[nc] at *);omega)) (by((try simp only[nc] at *);omega)) (by(try simp only[nc] at *);rw[←hkk];exact hT)
                (try simp only[nc] at hT2)
                rw[←hkk1] at hT2;have hmu4:∀_:Unit,(s1-kk1).toNat<(s1-kk).toNat:=fun _=>by((try simp only[nc] at *);omega)
                have hkk2:kk1≤s1:=by((try simp only[nc] at *);omega)
                cbv;rw[ett,ewq,htv,kiR,kiS,ekk];refine⟨⟨htR⟩,⟨ht2⟩,⟨ht2⟩,?_⟩
                refine Cv.fold ([15]++[60,61,62,63,64,65,66,67,68,69,70,71]) 11 [] (by exact Nat.le_refl _) (by exact Nat.le_of_ble_eq_true rfl) (by rfl) (by cbv) ?_
                intro js;refine⟨(_,_,_),?_,js,rfl⟩
                exact⟨⟨kn+1,hkk1,hkk2,hT2⟩,hmu4 ()⟩
              · rw[qc,ke] at hz4
                obtain rfl:kk=s1:=by((try simp only[nc] at *);omega)
                rw[hxs,hx2] at hT;cbv;intro js1;cbv;rw[hnf1];cbv;rw[ek0,ew0,esl,ex2,eq1];refine⟨⟨hk00⟩,?_⟩
                refine Cv.fold ([6,7]++[17,18,19,20,21,22,23,24,25,26,27,28,29,30,31,32,33,34,35,36,37,38,39,40,41,42,43,44,45,46]) 10 [] (by exact Nat.le_refl _) (by exact Nat.le_of_ble_eq_true rfl) (by rfl) (by cbv) ?_
                intro js;refine⟨(_,_,_,_),?_,js,rfl⟩
                exact⟨⟨i+1,hq1,hlt2,hx2,hT⟩,hmu2 ()⟩
    · rw [qc, ka2] at hz1
      have hL:L=M+2:=by((try simp only[nc] at *);omega)
      subst hL;rw[hgf] at hT;have hMp:(2:Int)^M≤2^11:=qj hM11;have htd:=htid _ _ _ hT;clear hgs0 hgss hgsn hgsr hgd hgf hge htip hti0 htid hT;have hb64:(2:Int)^(IntKind.u64).bits=18446744073709551616:=by decide
      cbv;intro js1;cbv;refine WX.cv (Cv.nilT 16 5 .u8 (by rfl) (by cbv;exact⟨fun _=>rfl,trivial⟩) (Cv.here ?_))
      cbv;refine kl (α:=Int×Int×Int×Nat×Nat×List Int) ([19]++[72,73,74,75,76,77,78,79,80,81,82,83,84,85,86,87,88,89,90,91,92,93,94,95,96,97,98,99,100,101,102,103,104,105,106,107,108,109,110,111]) [10] (fun(x,h,_,c,n1,_)=>[(16,.slice 10 .z 1 n1 c),(17,.int .u64 x),(18,.int .i64 h)])
        (fun(_,_,a,c,_,L)=>[(4,.one 143 [.slice 3 .z 1 lb cb,.int .i64 a]),(10,.buf 5 .u8 L c)])
        (fun(x,h,a,c,n1,L)=>∃j hN:Nat,h=hN∧hN≤M∧(j:Int)≤N∧a=POS j-h∧0≤POS j∧x=RD (POS j) hN∧L=OUT j∧n1=j∧n1≤c) (fun(_,_,_,_,n1,_)=>N.toNat-n1) hw hm ?_ ?_
      · refine Cv.genAt [17,18] [] (Cv.fold ([19]++[72,73,74,75,76,77,78,79,80,81,82,83,84,85,86,87,88,89,90,91,92,93,94,95,96,97,98,99,100,101,102,103,104,105,106,107,108,109,110,111]) 11 [10] (by exact Nat.le_refl _) (by exact Nat.le_of_ble_eq_true rfl) (by rfl) (by cbv) ?_)
        intro js;refine⟨(_,_,_,_,_,_),?_,js,rfl⟩
        exact⟨0,0,rfl,by omega,by(try simp only[nc] at *);omega,by rw[hpos0];omega,by rw[hpos0];omega,(hr0 _).symm,ho0.symm,rfl,Nat.le_refl _⟩
      · rintro⟨x,h,a,c,n1,L⟩ js ⟨j,hN2,hh,hhM,hjN,ha,hp,hx,hL,hn1,hnc⟩
        subst hn1;obtain⟨jI,hjI⟩:∃jI:Int,jI=(n1:Int):=⟨_,rfl⟩;have ej:vofN n1=jI:=by rw[qofN,hjI]
        cbv;rw[ej];generalize hz2:vc .lss jI N=z2;cases z2
        · rw[qc,ke] at hz2
          have ez:vc .lss jI N=false:=by rw[qc,ke];exact hz2
          have hnN:N.toNat=n1:=by((try simp only[nc] at *);omega)
          have hlf:=hleft cb a;obtain⟨p1,hp1'⟩:∃p1,p1=POS n1:=⟨_,rfl⟩;have hpd0:=hpd 0 n1 (by omega);rw[hpos0] at hpd0;have ep1:vb .add .i64 a h=p1:=by
            have e:a+h=p1:=by((try simp only[nc] at *);omega)
            rw[qb,kh (by((try simp only[nc] at *);omega)) (by((try simp only[nc] at *);omega)),e]
          have hLn:L.length=n1:=by rw[hL];exact hol n1
          rw[hnN];cbv;rw[ej,ez];cbv;refine ka (ρ:=[(4,.z),(3,.z)]) hlf ⟨by rfl,by rfl,by rfl,by cbv;exact⟨fun _=>rfl,kb _,trivial⟩⟩ ?_
          rintro v H R js3 ⟨rfl,rfl,rfl⟩;cbv;rw[ep1];refine⟨fun _=>rfl,?_⟩
          generalize hz3:vc .neq p1 0=z3;cases z3
          rotate_left
          · rw[qc,jl,hp1'] at hz3
            cbv;exact⟨L,c,rfl,.inl ⟨rfl,hz3⟩⟩
          · rw[qc,ql,Decidable.not_not,hp1'] at hz3
            cbv;subst hLn;exact⟨L,c,rfl,.inr ⟨rfl,hL,hz3,Nat.le_trans (Nat.le_of_eq (by rw[hL])) hnc⟩⟩
        · rw[qc,kf] at hz2
          obtain⟨dN,hdN⟩:∃dN,dN=M-hN2:=⟨_,rfl⟩;obtain⟨dI,hdI⟩:∃dI:Int,dI=(dN:Int):=⟨_,rfl⟩;have ed:vb .sub .i64 mI h=dI:=by(try simp only[nc] at *);rw[qb,ky (by omega) (by omega)];omega
          have ewd:vw .u64 dI=dI:=by(try simp only[nc] at *);rw[qw];exact wrap_u64 (by omega) (by omega)
          have hcl1:=hcl dI (by((try simp only[nc] at *);omega)) (by((try simp only[nc] at *);omega));have hcl2:CL dI=dN:=by((try simp only[nc] at *);omega)
          have hd0:0≤dI:=by((try simp only[nc] at *);omega)
          have hpd0:=hpd 0 n1 (by omega);rw[hpos0] at hpd0;have hbt:=hbits cb a dI (by((try simp only[nc] at *);omega));obtain⟨a2,ha2⟩:∃a2,a2=a-dN:=⟨_,rfl⟩;have hfl1:FL a2=a2:=hfl a2 (by((try simp only[nc] at *);omega));obtain⟨y,hy⟩:∃y,y=RD a dN:=⟨_,rfl⟩;rw[hcl2] at hbt;simp only[nc] at hbt ha2;rw[←ha2,hfl1,←hy] at hbt;have hMs:M=hN2+dN:=by((try simp only[nc] at *);omega)
          have hra1:=hra (POS n1) hN2 dN;rw[←hMs,←hx] at hra1;have haP:POS n1-(hN2:Int)=a:=by((try simp only[nc] at *);omega)
          simp only[nc] at hra1;rw[haP,←hy] at hra1;obtain⟨X,hX⟩:∃X,X=RD (POS n1) M:=⟨_,rfl⟩;rw[←hX] at hra1;have hXr:=hrb (POS n1) M;rw[←hX] at hXr;have hyr:=hrb a dN;rw[←hy] at hyr;have hxr:=hrb (POS n1) hN2;rw[←hx] at hxr;have hpd1:(0:Int)<2^dN:=p2 dN;obtain⟨X0,hX0⟩:∃X0,X0=x*2^dN:=⟨_,rfl⟩;have hX00:0≤X0:=by rw[hX0];exact Int.mul_nonneg hxr.1 (Int.le_of_lt hpd1)
          have eX0:vb .shl .u64 x dI=X0:=by
            have e:x*2^dI.toNat=X0:=by rw[hdI,Int.toNat_natCast,hX0]
            rw[qb,kaL rfl hxr.1 (by show dI≤64;((try simp only[nc] at *);omega)) (by rw[e,hb64];omega),e]
          have eX:vb .or .u64 X0 y=X:=by
            rw[qb,ka3 rfl,hX0,kdV rfl dN hyr.1 hyr.2 hxr.1 (by rw[hb64];omega)];omega
          cbv;rw[ed,ewd,eX0];refine⟨⟨hd0⟩,?_⟩
          refine ka (ρ:=[(4,.z),(3,.z)]) hbt ⟨by rfl,by rfl,by rfl,by cbv;exact⟨fun _=>rfl,kb _,trivial⟩⟩ ?_
          rintro v H R js2 ⟨rfl,rfl,rfl⟩;cbv;obtain⟨Xn,hXn⟩:∃Xn:Nat,Xn=X.toNat:=⟨_,rfl⟩;have hXv:vtoN X=Xn:=by rw[qtoN,hXn]
          have hX2:X<2048:=by omega
          have hXR:0≤X∧X<(2048:Int):=⟨hXr.1,hX2⟩;have hXn2:Xn<2048:=by omega
          have hXc:(Xn:Int)=X:=by omega
          simp only[nc] at htd hps hsymd hXc;obtain⟨hA1,hB1⟩:=htd Xn (by rw[hXc];exact hXr.2);obtain⟨hp1,hn1a,hn1b,_,_⟩:=hps n1;have hsd:=hsymd n1;rw[←hX] at hsd;have hsl:=hdl n1;rw[hXc,←hsd] at hA1 hB1;obtain⟨cI,hcI⟩:∃cI:Int,cI=(SYM n1:Int):=⟨_,rfl⟩;obtain⟨nI,hnI⟩:∃nI:Int,nI=NA (SYM n1):=⟨_,rfl⟩;rw[←hcI] at hA1;rw[←hnI] at hB1 hp1 hn1a hn1b;obtain⟨nN,hnN⟩:∃nN:Nat,nN=nI.toNat:=⟨_,rfl⟩;obtain⟨h2,hh2⟩:∃h2:Nat,h2=M-nN:=⟨_,rfl⟩;obtain⟨h3,hh3⟩:∃h3:Int,h3=(h2:Int):=⟨_,rfl⟩;have eh3:vb .sub .i64 mI nI=h3:=by(try simp only[nc] at *);rw[qb,ky (by omega) (by omega)];omega
          have ewh:vw .u64 h3=h3:=by(try simp only[nc] at *);rw[qw];exact wrap_u64 (by omega) (by omega)
          have hh30:0≤h3:=by rw[hh3];omega
          have hh2p:(0:Int)<2^h2:=p2 h2;have hh2q:(2:Int)^h2≤2^11:=qj (by omega);obtain⟨q2,hq2⟩:∃q2:Int,q2=2^h2:=⟨_,rfl⟩;have eq2:vb .shl .u64 1 h3=q2:=by
            have e:1*2^h3.toNat=q2:=by rw[hh3,Int.toNat_natCast,hq2,Int.one_mul]
            rw[qb,kaL rfl (by decide) (by show h3≤64;(try simp only[nc] at *);omega) (by rw[e,hb64];omega),e]
          obtain⟨q3,hq3⟩:∃q3:Int,q3=q2-1:=⟨_,rfl⟩;have eq3:vb .sub .u64 q2 1=q3:=by rw[qb,hq3];exact wrap_u64 (by omega) (by omega)
          obtain⟨x3,hx3⟩:∃x3,x3=RD (POS (n1+1)) h2:=⟨_,rfl⟩;have ex3:vb .and .u64 X q3=x3:=by
            have e1:=hrm (POS n1) nN h2;rw[show nN+h2=M by((try simp only[nc] at *);omega),←hX] at e1;have e2:POS n1-(nN:Int)=POS (n1+1):=by((try simp only[nc] at *);omega)
            simp only[nc] at e1;rw[e2,←hx3] at e1;rw[qb,hq3,hq2,jY rfl h2 (by show h2≤64;omega) hXr.1 (by rw[hb64];omega)];exact e1
          obtain⟨p1,hp1'⟩:∃p1,p1=POS (n1+1):=⟨_,rfl⟩;have ep1:vb .add .i64 a2 h3=p1:=by
            have e:a2+h3=p1:=by((try simp only[nc] at *);omega)
            rw[qb,kh (by((try simp only[nc] at *);omega)) (by((try simp only[nc] at *);omega)),e]
          have hlf:=hleft cb a2;have hpdN:=hpd (n1+1) N.toNat (by((try simp only[nc] at *);omega));rw[←hp1'] at hpdN;rw[eX];refine⟨fun _=>rfl,⟨hXR⟩,?_⟩
          rw[hXv,hB1,eh3,ewh,eq2,eq3,ex3];refine⟨⟨hXn2⟩,⟨hXn2⟩,fun _=>rfl,⟨hh30⟩,?_⟩
          refine ka (ρ:=[(4,.z),(3,.z)]) hlf ⟨by rfl,by rfl,by rfl,by cbv;exact⟨fun _=>rfl,kb _,trivial⟩⟩ ?_
          rintro v H R js3 ⟨rfl,rfl,rfl⟩;cbv;rw[ep1];refine⟨fun _=>rfl,?_⟩
          generalize hz3:vc .lss p1 0=z3;cases z3
          rotate_left
          · rw[qc,kf] at hz3
            have hne:POS N.toNat≠0:=by((try simp only[nc] at *);omega)
            have ez:vc .lss jI N=true:=by rw[qc,kf];exact hz2
            cbv;rw[ej,ez];cbv;exact⟨L,c,rfl,.inl ⟨rfl,hne⟩⟩
          · rw[qc,ke] at hz3
            have hLn:L.length=n1:=by rw[hL];exact hol n1
            have hadd1:vaddN n1 1=n1+1:=by rw[qaddN]
            have hadd01:vaddN 0 1=1:=by rw[qaddN]
            have hln1:vln [cI]=1:=by rw[qln];rfl
            have hlnL:vln L=n1:=by rw[qln];exact hLn
            have hont:vonto L n1 (vsub [cI] 0 1)=OUT (n1+1):=by
              have e1:vsub [cI] 0 1=[cI]:=by rw[qsub];rfl
              have e2:L.take n1=L:=by rw[←hLn,List.take_length]
              rw[e1,qonto,hos n1,hcI,←hL];simp only[e2]
            obtain⟨L2,hL2⟩:∃L2,L2=OUT (n1+1):=⟨_,rfl⟩;rw[←hL2] at hont;obtain⟨n2,hn2'⟩:∃n2,n2=n1+1:=⟨_,rfl⟩;rw[←hn2'] at hadd1;have hmu:∀_:Unit,N.toNat-n2<N.toNat-n1:=fun _=>by((try simp only[nc] at *);omega)
            have hjn:((n2:Nat):Int)≤N:=by((try simp only[nc] at *);omega)
            have ha3:a2=POS n2-h3:=by rw[hn2'];((try simp only[nc] at *);omega)
            have hpn2:0≤POS n2:=by rw[hn2',←hp1'];((try simp only[nc] at *);omega)
            rw[←hn2'] at hx3 hL2;have hh2M:h2≤M:=by omega
            have hn2b:n2*1≤140737488355328:=by((try simp only[nc] at *);omega)
            cbv;rw[hA1];refine⟨fun _=>rfl,⟨by rw[hadd01,hln1];exact Nat.le_refl _⟩,⟨by rw[hlnL];exact Nat.le_refl _⟩,⟨Nat.le_refl _⟩,⟨by rw[hadd1];exact hn2b⟩,fun _=>rfl,?_⟩
            intro c1 js4 hle;have hle':n2≤c1:=by have:=hle.out;simp only at this;rw[hadd1] at this;exact this
            cbv;rw[hont,hadd1];refine Cv.fold ([19]++[72,73,74,75,76,77,78,79,80,81,82,83,84,85,86,87,88,89,90,91,92,93,94,95,96,97,98,99,100,101,102,103,104,105,106,107,108,109,110,111]) 11 [10] (by exact Nat.le_refl _) (by exact Nat.le_of_ble_eq_true rfl) (by rfl) (by cbv) ?_
            intro js;refine⟨(_,_,_,_,_,_),?_,js,rfl⟩
            exact⟨⟨n2,h2,hh3,hh2M,hjn,ha3,hpn2,hx3,hL2,rfl,hle'⟩,hmu ()⟩
theorem kmJ (l:List Int) (B:List Int) (cap cap2:Nat) (hl:∀c∈l,kv c) (hlen:l.length≤140737488355328) (hW:∀M,¬Wt l M) :
    Con Try.prog 47 [.slice 0 .z 1 l.length cap,.slice 1 .z 1 B.length cap2] [.ro .u8 l,.ro .u8 B] (fun v H R=>v=.tup [.val (.slice none 0 0),.int .i64 50]∧H=[.ro .u8 l,.ro .u8 B]∧R=[]):=by
  have hsz:=qy l cap 0 hl hlen (.inr ⟨hW,rfl⟩);refine kj (kA 2 (by simp) (km (kg kr kri ?_)))
  intro _ vc _ _ _ _ _ _ _ _ _ _ _ _ _ _ _ _ _ _ _ _ _ qc _ _ _ _ _ _ _ _ _ _ _ _ _ _ _ _ _ _ _;have hm:=kr;generalize Try.prog=P at *;generalize hn:l.length=n at *;generalize hlb:B.length=lb at *;have d1:vc .eql 0 0=true:=by rw[qc,kF]
  cbv;refine ka (ρ:=[(0,.z)]) hsz ⟨by rfl,by rfl,by rfl,by cbv;exact⟨⟨⟨by omega,fun i _=>by rw[Nat.zero_add]⟩⟩,trivial⟩⟩ ?_
  rintro v H R js ⟨rfl,rfl,rfl⟩;cbv;rw[d1];cbv
theorem kjl (l:List Int) (B:List Int) (cap cap2:Nat) (N:Int) (hl:∀c∈l,kv c) (hlen:l.length≤140737488355328) (hW:∀M,¬Wt l M) :
    Con Try.prog 89 [.slice 0 .z 1 l.length cap,.slice 1 .z 1 B.length cap2,.int .i64 N] [.ro .u8 l,.ro .u8 B] (fun v H R=>v=.tup [.val (.slice none 0 0),.int .i64 50]∧H=[.ro .u8 l,.ro .u8 B]∧R=[]):=by
  have hsz:=qy l cap 0 hl hlen (.inr ⟨hW,rfl⟩);refine kj (kA 2 (by simp) (km (kg kr kpf ?_)))
  intro _ vc _ _ _ _ _ _ _ _ _ _ _ _ _ _ _ _ _ _ _ _ _ qc _ _ _ _ _ _ _ _ _ _ _ _ _ _ _ _ _ _ _;have hm:=kr;generalize Try.prog=P at *;generalize hn:l.length=n at *;generalize hlb:B.length=lb at *;have d1:vc .eql 0 0=true:=by rw[qc,kF]
  cbv;refine ka (ρ:=[(0,.z)]) hsz ⟨by rfl,by rfl,by rfl,by cbv;exact⟨⟨⟨by omega,fun i _=>by rw[Nat.zero_add]⟩⟩,trivial⟩⟩ ?_
  rintro v H R js ⟨rfl,rfl,rfl⟩;cbv;rw[d1];cbv
theorem kkx (l:List Int) (B:List Int) (cap cap2 M:Nat) (N:Int) (hl:∀c∈l,kv c) (hW:Wt l M) (hN:N<0∨131072<N) :
    Con Try.prog 89 [.slice 0 .z 1 l.length cap,.slice 1 .z 1 B.length cap2,.int .i64 N] [.ro .u8 l,.ro .u8 B] (fun v H R=>v=.tup [.val (.slice none 0 0),.int .i64 2]∧H=[.ro .u8 l,.ro .u8 B]∧R=[]):=by
  have hsz:=qy l cap M hl (by have:=hW.2.1;omega) (.inl ⟨M,hW,rfl⟩);refine kj (kA 2 (by simp) (km (kg kr kpf ?_)))
  intro _ vc _ _ _ _ _ _ _ _ _ _ _ _ _ _ _ _ _ _ _ _ _ qc _ _ _ _ _ _ _ _ _ _ _ _ _ _ _ _ _ _ _;have hm:=kr;generalize Try.prog=P at *;have hM1:=hW.pos;have hn256:=hW.2.1;obtain⟨mI,hmI⟩:∃mI:Int,mI=M:=⟨_,rfl⟩;rw[←hmI] at hsz;generalize hn:l.length=n at *;generalize hlb:B.length=lb at *;have d1:vc .eql mI 0=false:=by rw[qc,kx];omega
  cbv;refine ka (ρ:=[(0,.z)]) hsz ⟨by rfl,by rfl,by rfl,by cbv;exact⟨⟨⟨by omega,fun i _=>by rw[Nat.zero_add]⟩⟩,trivial⟩⟩ ?_
  rintro v H R js ⟨rfl,rfl,rfl⟩;cbv;rw[d1];cbv;rcases hN with hN|hN
  · have d2:vc .lss N 0=true:=by rw[qc,kf];exact hN
    rw[d2];cbv
  · have d2:vc .lss N 0=false:=by rw[qc,ke];omega
    have d3:vc .gtr N 131072=true:=by rw[qc,kz];exact hN
    rw[d2];cbv;rw[d3];cbv
theorem kky (l:List Int) (b:List Int) (cap cap2 M:Nat) (N:Int) (hl:∀c∈l,kv c) (hW:Wt l M) (hN:0≤N∧N≤131072) (hlast:b.getLastD 0=0) (hbl:b.length≤2^48) :
    Con Try.prog 89 [.slice 0 .z 1 l.length cap,.slice 1 .z 1 b.length cap2,.int .i64 N] [.ro .u8 l,.ro .u8 b] (fun v H R=>v=.tup [.val (.slice none 0 0),.int .i64 11]∧H=[.ro .u8 l,.ro .u8 b]∧R=[]):=by
  have hsz:=qy l cap M hl (by have:=hW.2.1;omega) (.inl ⟨M,hW,rfl⟩);have hnew:=kk9 b cap2 hlast hbl;refine kj (kA 2 (by simp) (km (kg kr kpf ?_)))
  intro _ vc _ _ _ _ _ _ _ _ _ _ _ _ _ _ _ _ _ _ _ _ _ qc _ _ _ _ _ _ _ _ _ _ _ _ _ _ _ _ _ _ _;have hm:=kr;generalize Try.prog=P at *;have hM1:=hW.pos;have hn256:=hW.2.1;obtain⟨mI,hmI⟩:∃mI:Int,mI=M:=⟨_,rfl⟩;rw[←hmI] at hsz;generalize hn:l.length=n at *;generalize hlb:b.length=lb at *;have d1:vc .eql mI 0=false:=by rw[qc,kx];omega
  have d2:vc .lss N 0=false:=by rw[qc,ke];omega
  have d3:vc .gtr N 131072=false:=by rw[qc,ku];omega
  cbv;refine ka (ρ:=[(0,.z)]) hsz ⟨by rfl,by rfl,by rfl,by cbv;exact⟨⟨⟨by omega,fun i _=>by rw[Nat.zero_add]⟩⟩,trivial⟩⟩ ?_
  rintro v H R js ⟨rfl,rfl,rfl⟩;cbv;rw[d1];cbv;rw[d2];cbv;rw[d3];cbv;refine ka (ρ:=[(1,.z)]) hnew ⟨by rfl,by rfl,by rfl,by cbv;exact⟨⟨⟨by omega,fun i _=>by rw[Nat.zero_add]⟩⟩,trivial⟩⟩ ?_
  rintro v H R js ⟨rfl,rfl,rfl⟩;cbv
theorem koz (l b:List Int) (cap cap2:Nat) (M:Nat) (hl:∀c∈l,kv c) (hb:∀c∈b,kv c) (hW:Wt l M) (hbl:b.length≤131072) :
    Con Try.prog 47 [.slice 0 .z 1 l.length cap,.slice 1 .z 1 b.length cap2] [.ro .u8 l,.ro .u8 b]
      (fun v H R=>R=[]∧∃L c',H=[.ro .u8 l,.ro .u8 b,.buf 5 .u8 L c'] ∧
        ((v=.tup [.val (.slice none 0 0),.int .i64 2]∧¬qJ l b b.length) ∨
         (v=.tup [.slice 2 .z 1 L.length c',.int .i64 0]∧L=pack (pb l M b b.length++[1])∧qJ l b b.length))):=by
  refine kfQ [0,1,8] rfl rfl (Con.mono (kpz l b cap cap2 M hl hb hW hbl) ?_)
  rintro v H R ⟨rfl,L,c',rfl,⟨rfl,h⟩|⟨rfl,h1,h2⟩⟩
  · exact⟨.tup [.val (.slice none 0 0),.int .i64 2],[.ro .u8 l,.ro .u8 b,.buf 5 .u8 L c'],rfl,rfl,⟨rfl,rfl,rfl,trivial⟩,rfl,L,c',rfl,.inl ⟨rfl,h⟩⟩
  · exact⟨.tup [.slice 2 .z 1 L.length c',.int .i64 0],[.ro .u8 l,.ro .u8 b,.buf 5 .u8 L c'],rfl,rfl,⟨rfl,rfl,rfl,trivial⟩,rfl,L,c',rfl,.inr ⟨rfl,h1,h2⟩⟩
theorem kkz (l b:List Int) (cap cap2:Nat) (M:Nat) (N:Int) (hl:∀c∈l,kv c) (hb:∀c∈b,isByte c) (hW:Wt l M) (hN:0≤N∧N≤131072) (hbl:b.length≤140737488355328) (hlast:b.getLastD 0≠0) (p0:Int)
    (hp0:p0=8*(b.length-1)+(len8 (b.getLastD 0)-1)) (hp1:0≤p0∧p0≤8*b.length) :
    Con Try.prog 89 [.slice 0 .z 1 l.length cap,.slice 1 .z 1 b.length cap2,.int .i64 N] [.ro .u8 l,.ro .u8 b]
      (fun v H R=>R=[]∧∃L c',H=[.ro .u8 l,.ro .u8 b,.buf 5 .u8 L c'] ∧
        ((v=.tup [.val (.slice none 0 0),.int .i64 11]∧pos l M b p0 N.toNat≠0) ∨
         (v=.tup [.slice 2 .z 1 L.length c',.int .i64 0]∧L=kdr l M b p0 N.toNat∧pos l M b p0 N.toNat=0∧L.length≤c'))):=by
  refine kfQ [0,1,10] rfl rfl (Con.mono (kmI l b cap cap2 M N hl hb hW hN hbl hlast p0 hp0 hp1) ?_)
  rintro v H R ⟨rfl,L,c',rfl,⟨rfl,h⟩|⟨rfl,h1,h2,h3⟩⟩
  · exact⟨.tup [.val (.slice none 0 0),.int .i64 11],[.ro .u8 l,.ro .u8 b,.buf 5 .u8 L c'],rfl,rfl,⟨rfl,rfl,rfl,trivial⟩,rfl,L,c',rfl,.inl ⟨rfl,h⟩⟩
  · exact⟨.tup [.slice 2 .z 1 L.length c',.int .i64 0],[.ro .u8 l,.ro .u8 b,.buf 5 .u8 L c'],rfl,rfl,⟨rfl,rfl,rfl,trivial⟩,rfl,L,c',rfl,.inr ⟨rfl,h1,h2,h3⟩⟩
theorem krO {l:List Int} {c:Nat} (h:Sy l c):xA l c=wx l c:=by unfold xA;rw[if_pos h]
theorem krP {l:List Int} {M c:Nat} (h:Sy l c):nA l M c=(M:Int)+1-wn l c:=by unfold nA;rw[if_pos h]
theorem kjm (l:List Int) (M:Nat) (b:List Int) {k:Nat}:∀{n:Nat},k≤n→∃rest,pb l M b n=pb l M b k++rest
  | 0, h => by obtain rfl:k=0:=by omega
               exact⟨[],by simp⟩
  | n + 1,h=>by
    by_cases e:k=n+1
    · subst e;exact⟨[],by simp⟩
    · obtain⟨r,hr⟩:=kjm l M b (k:=k) (n:=n) (by omega)
      exact⟨r++kC (xA l (b.getD (b.length-1-n) 0).toNat) (nA l M (b.getD (b.length-1-n) 0).toNat).toNat,by simp only[pb];rw[hr,List.append_assoc]⟩
theorem kqG {l:List Int} {M:Nat} (hl:∀c∈l,kv c) (hW:Wt l M) {c:Nat} (hc:Sy l c) (pre rest:List Int) (h:∀b∈pre++kC (xA l c) (nA l M c).toNat++rest,jc b) :
    dc l (rd (pack (pre++kC (xA l c) (nA l M c).toNat++rest)) ((pre++kC (xA l c) (nA l M c).toNat).length:Nat) M)=c:=by
  have hwn:=kg0 hW hc.1;have hx:=kjj hW hc;have h1:=hc.2;have e:((M:Int)+1-wn l c).toNat=M+1-wn l c:=by omega
  have e':=e;rw[krO hc,krP hc] at *
  rw[e];apply koy hl
  rw[kqy hW hc.1 hc.2];have:=kqF (pack (pre++kC (wx l c) (M+1-wn l c)++rest)) ((pre++kC (wx l c) (M+1-wn l c)).length:Nat) (M+1-wn l c) (wn l c-1);rw[show(M+1-wn l c)+(wn l c-1)=M by omega] at this;rw[this];rw[e'] at h;rw[kqu _ _ _ _ hx.1 h,Int.emod_eq_of_lt hx.1 hx.2]
theorem kjn {l:List Int} {M:Nat} (hl:∀c∈l,kv c) (hW:Wt l M) (b:List Int) (hall:qJ l b b.length):∀j,j≤b.length →
    pos l M (pack (pb l M b b.length++[1])) (pb l M b b.length).length j=(pb l M b (b.length-j)).length∧∀i,i<j→sym l M (pack (pb l M b b.length++[1])) (pb l M b b.length).length i=(b.getD i 0).toNat
  |0,_=>⟨rfl,fun i hi=>by omega⟩
  | j + 1,hj=>by
    obtain⟨h1,h2⟩:=kjn hl hW b hall j (by omega);have hc:=hall (b.length-1-j) (by omega);rw[show b.length-1-(b.length-1-j)=j by omega] at hc;obtain⟨rest,hr⟩:=kjm l M b (k:=b.length-1-j+1) (n:=b.length) (by omega);have hs:pb l M b (b.length-1-j+1)=pb l M b (b.length-1-j)++kC (xA l (b.getD j 0).toNat) (nA l M (b.getD j 0).toNat).toNat:=by
      simp only[pb];rw[show b.length-1-(b.length-1-j)=j by omega]
    have hbits:∀x∈pb l M b b.length++[1],jc x:=fun x hx=>(List.mem_append.1 hx).elim (keb l M b _ x) (fun e=>.inr (by simpa using e))
    have e:pb l M b b.length++[1]=pb l M b (b.length-1-j)++kC (xA l (b.getD j 0).toNat) (nA l M (b.getD j 0).toNat).toNat++(rest++[1]):=by
      rw[hr,hs];simp only[List.append_assoc]
    have hsym:sym l M (pack (pb l M b b.length++[1])) (pb l M b b.length).length j=(b.getD j 0).toNat:=by
      have:=kqG hl hW hc (pb l M b (b.length-1-j)) (rest++[1]) (by rw[←e];exact hbits);rw[←e,←hs,show b.length-1-j+1=b.length-j by omega,←h1] at this;exact this
    have hst:=(kf8 hl hW (pack (pb l M b b.length++[1])) (pb l M b b.length).length j).1;rw[hsym,h1] at hst;have hlen:(pb l M b (b.length-j)).length=(pb l M b (b.length-(j+1))).length+(nA l M (b.getD j 0).toNat).toNat:=by
      rw[show b.length-j=b.length-1-j+1 by omega,hs,List.length_append,kM];congr 3;omega
    have hnn:=(kbZ hW (b.getD j 0).toNat).1;refine⟨by rw[hst,hlen];push_cast;omega,fun i hi=>?_⟩
    by_cases e:i=j
    · subst e;exact hsym
    · exact h2 i (by omega)
theorem kqH {l:List Int} {M:Nat} (hl:∀c∈l,kv c) (hW:Wt l M) {b:List Int} (hb:∀c∈b,kv c) (hall:qJ l b b.length) :
    pos l M (pack (pb l M b b.length++[1])) (pb l M b b.length).length b.length=0∧kdr l M (pack (pb l M b b.length++[1])) (pb l M b b.length).length b.length=b:=by
  obtain⟨h1,h2⟩:=kjn hl hW b hall b.length (Nat.le_refl _);refine⟨by rw[h1,Nat.sub_self];rfl,?_⟩
  apply List.ext_getElem
  · rw[kf9]
  · intro i h3 h4
    simp only[kdr,List.getElem_map,List.getElem_range];rw[h2 i h4,List.getD_eq_getElem?_getD,List.getElem?_eq_getElem h4];have:=(hb b[i] (List.getElem_mem h4)).1;simp only[Option.getD_some];omega
theorem kaj {l:List Int} (h:∀c∈l,kv c):∀c∈l,isByte c:=fun c hc=>by have:=h c hc;unfold kv at this;exact⟨this.1,by omega⟩
theorem kpB (l b:List Int) (cap cap2 M:Nat) (N:Int) (hl:∀c∈l,kv c) (hb:∀c∈b,isByte c) (hW:Wt l M) (hN:N≤131072) (hbl:b.length≤140737488355328) :
    Con Try.prog 89 [.slice 0 .z 1 l.length cap,.slice 1 .z 1 b.length cap2,.int .i64 N] [.ro .u8 l,.ro .u8 b]
      (fun v H R=>R=[]∧((H=[.ro .u8 l,.ro .u8 b]∧(v=.tup [.val (.slice none 0 0),.int .i64 2]∧N<0∨v=.tup [.val (.slice none 0 0),.int .i64 11]∧0≤N∧b.getLastD 0=0))∨∃L c',H=[.ro .u8 l,.ro .u8 b,.buf 5 .u8 L c'] ∧
        ((v=.tup [.val (.slice none 0 0),.int .i64 11]∧0≤N∧b.getLastD 0≠0∧pos l M b (jP b) N.toNat≠0) ∨
         (v=.tup [.slice 2 .z 1 L.length c',.int .i64 0]∧L=kdr l M b (jP b) N.toNat∧0≤N∧b.getLastD 0≠0∧pos l M b (jP b) N.toNat=0∧L.length≤c')))):=by
  by_cases h1:N<0
  · exact(kkx l b cap cap2 M N hl hW (.inl h1)).mono fun v H R ⟨e1,e2,e3⟩=>⟨e3,.inl ⟨e2,.inl ⟨e1,h1⟩⟩⟩
  by_cases h2:b.getLastD 0=0
  · exact(kky l b cap cap2 M N hl hW ⟨by omega,hN⟩ h2 (by omega)).mono fun v H R ⟨e1,e2,e3⟩=>⟨e3,.inl ⟨e2,.inr ⟨e1,by omega,h2⟩⟩⟩
  obtain⟨P,hP,hPl,_⟩:=keA b h2 hb;refine(kkz l b cap cap2 M N hl hb hW ⟨by omega,hN⟩ hbl h2 (jP b) rfl (by omega)).mono ?_
  rintro v H R ⟨e1,L,c',e2,h|h⟩
  · exact⟨e1,.inr ⟨L,c',e2,.inl ⟨h.1,by omega,h2,h.2⟩⟩⟩
  · exact⟨e1,.inr ⟨L,c',e2,.inr ⟨h.1,h.2.1,by omega,h2,h.2.2.1,h.2.2.2⟩⟩⟩
theorem Wt.uniq {l:List Int} {M K:Nat} (h:Wt l M) (k:Wt l K):M=K:=by
 have e:(2:Int)^M=2^K:=by rw[←h.2.2.2.2.2.1,←k.2.2.2.2.2.1]
 have e:2^M=2^K:=by exact_mod_cast e
 exact(Nat.pow_right_inj (by decide)).1 e
open Classical in
noncomputable def unR (l b:List Int) (N:Int):Option (List Int):=
 if h:∃M,Wt l M then(if b.getLastD 0≠0∧pos l h.choose b (jP b) N.toNat=0 then some (kdr l h.choose b (jP b) N.toNat) else none) else none
theorem koA {l:List Int} {M:Nat} (hW:Wt l M) (b:List Int) (N:Int):unR l b N=if b.getLastD 0≠0∧pos l M b (jP b) N.toNat=0 then some (kdr l M b (jP b) N.toNat) else none:=by
 have h:∃M,Wt l M:=⟨M,hW⟩;unfold unR;rw[dif_pos h,Wt.uniq h.choose_spec hW]
theorem kqI {l:List Int} (h:¬∃M,Wt l M) (b:List Int) (N:Int):unR l b N=none:=by
 unfold unR;rw[dif_neg h]
theorem kpC {l b L:List Int} {N:Int} (h:unR l b N=some L):L.length=N.toNat:=by
 unfold unR at h;split at h
 ·split at h
  ·rw[Option.some.injEq] at h;rw[←h,kf9]
  ·cases h
 ·cases h
theorem kjo (l b:List Int) (cap cap2:Nat) (N:Int) (hl:∀c∈l,kv c) (hll:l.length≤140737488355328) (hb:∀c∈b,isByte c) (hN:0≤N∧N≤131072) (hbl:b.length≤140737488355328) :
  Con Try.prog 89 [.slice 0 .z 1 l.length cap,.slice 1 .z 1 b.length cap2,.int .i64 N] [.ro .u8 l,.ro .u8 b]
   (fun v H R=>R=[]∧((∃e:Int,e≠0∧unR l b N=none∧H=[.ro .u8 l,.ro .u8 b]∧v=.tup [.val (.slice none 0 0),.int .i64 e]) ∨
    ∃L c',unR l b N=some L∧H=[.ro .u8 l,.ro .u8 b,.buf 5 .u8 L c']∧v=.tup [.slice 2 .z 1 L.length c',.int .i64 0]∧L.length≤c')):=by
 by_cases hW:∃M,Wt l M
 ·obtain⟨M,hW⟩:=hW;rw[koA hW];refine kG (Con.mono (kpB l b cap cap2 M N hl hb hW hN.2 hbl) ?_)
  rintro v H R ⟨rfl,⟨rfl,⟨rfl,h⟩|⟨rfl,h1,h2⟩⟩|⟨L,c',rfl,⟨rfl,h1,h2,h3⟩|⟨rfl,h1,h2,h3,h4,h5⟩⟩⟩
  ·omega
  ·exact⟨[0,1],.tup [.val (.slice none 0 0),.int .i64 11],[.ro .u8 l,.ro .u8 b],rfl,rfl,rfl,rfl,⟨rfl,rfl,trivial⟩,rfl,.inl ⟨11,by decide,if_neg (fun h=>h.1 h2),rfl,rfl⟩⟩
  ·exact⟨[0,1],.tup [.val (.slice none 0 0),.int .i64 11],[.ro .u8 l,.ro .u8 b],rfl,rfl,rfl,rfl,⟨rfl,rfl,trivial⟩,rfl,.inl ⟨11,by decide,if_neg (fun h=>h3 h.2),rfl,rfl⟩⟩
  ·exact⟨[0,1,2],.tup [.slice 2 .z 1 L.length c',.int .i64 0],[.ro .u8 l,.ro .u8 b,.buf 5 .u8 L c'],rfl,rfl,rfl,rfl,⟨rfl,rfl,rfl,trivial⟩,rfl,.inr ⟨L,c',by rw[if_pos ⟨h3,h4⟩,h1],rfl,rfl,h5⟩⟩
 ·rw[kqI hW];refine(kjl l b cap cap2 N hl hll (fun M h=>hW ⟨M,h⟩)).mono ?_
  rintro v H R ⟨rfl,rfl,rfl⟩;exact⟨rfl,.inl ⟨50,by decide,rfl,rfl,rfl⟩⟩
theorem kpD (l b:List Int) (cap cap2:Nat) (N:Int) (hl:∀c∈l,kv c) (hll:l.length≤140737488355328) (hb:∀c∈b,isByte c) (hN:0≤N∧N≤131072) (hbl:b.length≤140737488355328) :
  Con Try.prog 89 [.slice 0 .z 1 l.length cap,.slice 1 .z 1 b.length cap2,.int .i64 N] [.ro .u8 l,.ro .u8 b]
   (fun v H R=>R=[]∧((∃e:Int,e≠0∧unR l b N=none∧H=[.ro .u8 l,.ro .u8 b]∧v=.tup [.val (.slice none 0 0),.int .i64 e]) ∨
    ∃L c',unR l b N=some L∧H=[.ro .u8 l,.ro .u8 b,.buf 5 .u8 L c']∧v=.tup [.slice 2 .z 1 L.length c',.int .i64 0])):=
 (kjo l b cap cap2 N hl hll hb hN hbl).mono fun _ _ _ ⟨h1,h2⟩=>⟨h1,h2.imp id fun⟨L,c',a,b,c,_⟩=>⟨L,c',a,b,c⟩⟩
theorem kg1 (b:List Int) (n:Nat):∀m,m≤n→j4 (b.take n) m=j4 b m
 |0,_=>rfl
 |m+1,h=>by
  rw[j4,j4,kg1 b n m (by omega)];congr 2
  rw[List.getD_eq_getElem?_getD,List.getD_eq_getElem?_getD,List.getElem?_take,if_pos (by omega)]
theorem kg2 (b:List Int) (n:Nat) (hn:n≤b.length):kdP 0 (b.take n) b:=by
 have hlen:(b.take n).length=n:=by rw[List.length_take];omega
 refine⟨?_,fun i hi=>?_⟩
 ·rw[hlen];omega
 ·rw[hlen] at hi;rw[List.getD_eq_getElem?_getD,List.getD_eq_getElem?_getD,List.getElem?_take,if_pos hi,Nat.zero_add]
theorem keI (b:List Int) (n cap:Nat) (hb:∀c∈b,kv c) (hn:n≤b.length) (h8:n≤8) :
  Con Try.prog 57 [.slice 0 .z 1 n cap] [.ro .u8 (b.take n)] (fun v H R=>v=.int .u64 (j4 b n)∧H=[.ro .u8 (b.take n)]∧R=[]):=by
 have hlen:(b.take n).length=n:=by rw[List.length_take];omega
 have:=kf3 (b.take n) cap (fun c hc=>hb c (List.mem_of_mem_take hc)) (by omega);rw[hlen,kg1 b n n (Nat.le_refl _)] at this;exact this
-- CASES
def seg (b:List Int) (o n:Nat):List Int:=(b.drop o).take n
theorem qz {b:List Int} {o n:Nat} (h:o+n≤b.length):(seg b o n).length=n:=by unfold seg;rw[List.length_take,List.length_drop];omega
theorem ke4 (b:List Int) (o:Nat) {n i:Nat} (h:i<n):(seg b o n).getD i 0=b.getD (o+i) 0:=by
 unfold seg;rw[List.getD_eq_getElem?_getD,List.getD_eq_getElem?_getD,List.getElem?_take,if_pos h,List.getElem?_drop]
theorem kds {b:List Int} {o n:Nat} {p:Int→Prop} (h:∀c∈b,p c):∀c∈seg b o n,p c:=fun c hc=>h c (List.mem_of_mem_drop (List.mem_of_mem_take hc))
theorem kdt {b:List Int} {o n x:Nat} (h:o+n≤b.length) (hx:x=o∨n=0∧x≤b.length):kdP x (seg b o n) b:=by
 refine⟨?_,fun i hi=>?_⟩
 ·rw[qz h];omega
 ·rw[qz h] at hi;rw[ke4 b o hi];rcases hx with rfl|⟨rfl,_⟩
  ·rfl
  ·omega
def w2 (b:List Int) (i:Nat):Int:=b.getD (2*i) 0+b.getD (2*i+1) 0*256
theorem kmK (b:List Int) (i:Nat):j4 (seg b (2*i) 2) 2=w2 b i:=by
 have e1:=ke4 b (2*i) (n:=2) (i:=0) (by decide);have e2:=ke4 b (2*i) (n:=2) (i:=1) (by decide);simp only[j4,e1,e2,w2];show 0+b.getD (2*i+0) 0*2^(8*0)+b.getD (2*i+1) 0*2^(8*1)=_
 rw[show(2:Int)^(8*0)=1 by decide,show(2:Int)^(8*1)=256 by decide,Nat.add_zero];omega
theorem koB {b:List Int} (hb:∀c∈b,kv c) (i:Nat):0≤w2 b i∧w2 b i<65536:=by
 have h1:=jm hb (2*i);have h2:=jm hb (2*i+1);unfold kv at h1 h2;unfold w2;omega
theorem kkA {b:List Int} {i:Nat} (cap:Nat) (hb:∀c∈b,kv c) (h:2*i+2≤b.length) :
  Con Try.prog 57 [.slice 0 .z 1 2 cap] [.ro .u8 (seg b (2*i) 2)] (fun v H R=>v=.int .u64 (w2 b i)∧H=[.ro .u8 (seg b (2*i) 2)]∧R=[]):=by
 have hlen:=qz h;have:=kf3 (seg b (2*i) 2) cap (kds hb) (by omega);rw[hlen,kmK] at this;exact this
noncomputable def kbx (w b:List Int) (size each:Int):Nat→Nat→List Int→Option (List Int)
 |0,_,L=>some L
 | n+1,q,L=>
  if (b.length:Int)-q<(if 1≤n then w2 b (3-n) else(b.length:Int)-q) then none
  else match unR w (seg b q (if 1≤n then w2 b (3-n) else(b.length:Int)-q).toNat) (if 1≤n then each else size-3*each) with
   |none=>none
   |some l=>kbx w b size each n (q+(if 1≤n then w2 b (3-n) else(b.length:Int)-q).toNat) (L++l)
noncomputable def qa (w b:List Int) (size n:Int):Option (List Int):=
 if n=1 then unR w b size else if b.length<6∨size<3*((size+3) / 4) then none else kbx w b size ((size+3) / 4) 4 6 []
theorem q5 {w b:List Int} {size each k wt:Int} {n q:Nat} {L:List Int} (hk:k=if 1≤n then w2 b (3-n) else(b.length:Int)-q) (hwt:wt=if 1≤n then each else size-3*each) :
  ((b.length:Int)-q<k→kbx w b size each (n+1) q L=none)∧(¬(b.length:Int)-q<k→unR w (seg b q k.toNat) wt=none→kbx w b size each (n+1) q L=none) ∧
  (¬(b.length:Int)-q<k→∀l,unR w (seg b q k.toNat) wt=some l→kbx w b size each (n+1) q L=kbx w b size each n (q+k.toNat) (L++l)):=by
 rw[kbx,←hk,←hwt];refine⟨fun h=>if_pos h,fun h e=>?_,fun h l e=>?_⟩
 ·rw[if_neg h,e]
 ·rw[if_neg h,e]

theorem kmL (w b:List Int) (cap cap2:Nat) (size:Int) (hw8:∀c∈w,kv c) (hwl:w.length≤140737488355328) (hb:∀c∈b,kv c) (hbl:b.length≤1048576) (hs:0≤size∧size≤131072) :
  Con Try.prog 59 [.slice 0 .z 1 w.length cap,.slice 1 .z 1 b.length cap2,.int .i64 size,.int .i64 1] [.ro .u8 w,.ro .u8 b]
   (fun v H R=>R=[]∧((∃e:Int,e≠0∧unR w b size=none∧H=[.ro .u8 w,.ro .u8 b]∧v=.tup [.val (.slice none 0 0),.int .i64 e]) ∨
    ∃L c',unR w b size=some L∧H=[.ro .u8 w,.ro .u8 b,.buf 5 .u8 L c']∧v=.tup [.slice 2 .z 1 L.length c',.int .i64 0]∧L.length≤c')):=by
 have hun:=kjo w b cap cap2 size hw8 hwl (kaj hb) hs (by omega);refine kj (kG (km (kg kr krm ?_)))
 intro _ vc _ _ _ _ _ _ _ _ _ _ _ _ _ _ _ _ _ _ _ _ _ qc _ _ _ _ _ _ _ _ _ _ _ _ _ _ _ _ _ _ _;have hm:=kr;generalize Try.prog=P at *;generalize unR w b size=U at *;generalize hwl':w.length=wl at *;generalize hbl':b.length=bl at *;have e11:vc .eql 1 1=true:=by rw[qc];rfl
 cbv;rw[e11];cbv;refine ka (ρ:=[(0,.z),(1,.z)]) hun ⟨by rfl,by rfl,by rfl,by cbv;exact⟨kb _,kb _,trivial⟩⟩ ?_
 rintro v H R js ⟨rfl,⟨e,he,hU,rfl,rfl⟩|⟨L,c',hU,rfl,rfl,hLc⟩⟩
 ·cbv;exact⟨[0,1],.tup [.val (.slice none 0 0),.int .i64 e],[.ro .u8 w,.ro .u8 b],rfl,rfl,rfl,rfl,⟨rfl,rfl,trivial⟩,rfl,.inl ⟨e,he,hU,rfl,rfl⟩⟩
 ·obtain⟨Ln,hLn⟩:∃Ln,Ln=L.length:=⟨_,rfl⟩;rw[←hLn];cbv;subst hLn;exact⟨[0,1,2],.tup [.slice 2 .z 1 L.length c',.int .i64 0],[.ro .u8 w,.ro .u8 b,.buf 5 .u8 L c'],rfl,rfl,rfl,rfl,⟨rfl,rfl,rfl,trivial⟩,rfl,.inr ⟨L,c',hU,rfl,rfl,hLc⟩⟩
theorem kjp (w b:List Int) (cap cap2:Nat) (size n:Int) (hw8:∀c∈w,kv c) (hwl:w.length≤140737488355328) (hb:∀c∈b,kv c) (hbl:b.length≤1048576) (hcap:b.length≤cap2) (hcm:cap2≤9223372036854775807) (hs:0≤size∧size≤131072) :
  Con Try.prog 59 [.slice 0 .z 1 w.length cap,.slice 1 .z 1 b.length cap2,.int .i64 size,.int .i64 n] [.ro .u8 w,.ro .u8 b]
   (fun v H R=>R=[]∧((∃e:Int,e≠0∧qa w b size n=none∧H=[.ro .u8 w,.ro .u8 b]∧v=.tup [.val (.slice none 0 0),.int .i64 e]) ∨
    ∃L c',qa w b size n=some L∧H=[.ro .u8 w,.ro .u8 b,.buf 5 .u8 L c']∧v=.tup [.slice 2 .z 1 L.length c',.int .i64 0]∧L.length≤c')):=by
 by_cases hn1:n=1
 ·subst hn1;rw[show qa w b size 1=unR w b size by unfold qa;rw[if_pos rfl]];exact kmL w b cap cap2 size hw8 hwl hb hbl hs
 obtain⟨each,heach⟩:∃each,each=(size+3) / 4:=⟨_,rfl⟩;have hRR:qa w b size n=if b.length<6∨size<3*each then none else kbx w b size each 4 6 []:=by unfold qa;rw[if_neg hn1,heach]
 have hun:=fun(q kN:Nat) (N:Int) (c:Nat) (h1:q+kN≤b.length) (h2:0≤N∧N≤131072)=>by
  have:=kpD w (seg b q kN) cap c N hw8 hwl (kds (kaj hb)) h2 (by rw[qz h1];omega);rw[qz h1] at this;exact this
 have hnum:=fun(i c:Nat) (h:2*i+2≤b.length)=>kkA c hb h
 have hr0:∀(q:Nat) (L:List Int),kbx w b size each 0 q L=some L:=fun _ _=>rfl
 have hround:=fun k wt n q L=>@q5 w b size each k wt n q L
 have hw2:=koB hb;have hseg:=fun o n h=>@qz b o n h
 have hvs:=fun o n x h hx=>@kdt b o n x h hx
 have hlU:=fun(p:List Int) (N:Int) (X:List Int) (h:unR w p N=some X)=>kpC h
 rw[hRR];refine kj (kG (km (kg kr krm ?_)))
 intro vb vc vw vtoN vofN vaddN vsubN _ _ vcutN vgd _ vln _ vsub vonto _ _ _ _ _ hw qb qc qw qtoN qofN qaddN qsubN _ _ qcutN qgd _ qln _ qsub qonto _ _ _ _ _;have hm:=kr;generalize Try.prog=P at *;clear hRR;generalize kbx w b size each=RF at *;generalize unR w=UN at *;generalize w2 b=W2 at *;generalize seg b=SG at *;generalize hwl':w.length=wl at *;generalize hbl':b.length=bl at *;have hgd:∀i,vgd b i=b.getD i 0:=fun i=>by rw[qgd]
 have hlnq:∀l,vln l=l.length:=fun l=>by rw[qln]
 have hlnb:vln b=bl:=by simp only[qln,hbl']
 have haddq:∀a b,vaddN a b=a+b:=fun a b=>by rw[qaddN]
 obtain⟨bI,hbI⟩:∃bI:Int,bI=bl:=⟨_,rfl⟩;have ebl:vofN bl=bI:=by rw[qofN,hbI]
 have en1:vc .eql n 1=false:=by rw[qc,kx];exact hn1
 obtain⟨s3,hs3⟩:∃s3,s3=size+3:=⟨_,rfl⟩;have es3:vb .add .i64 size 3=s3:=by rw[qb,kh (by omega) (by omega),hs3]
 have eq4:vb .quo .i64 s3 4=each:=by rw[qb,j3 (by omega) (by omega) (by omega),heach,hs3]
 obtain⟨t3,ht3⟩:∃t3,t3=3*each:=⟨_,rfl⟩;have et3:vb .mul .i64 3 each=t3:=by rw[qb,qV (by omega) (by omega),ht3]
 rw[←ht3];cbv;rw[en1];cbv;rw[es3,eq4,ebl];generalize hz1:vc .lss bI 6=z1;cases z1
 rotate_left
 ·rw[qc,kf] at hz1;cbv;exact⟨[0,1],.tup [.val (.slice none 0 0),.lit .i64 11],[.ro .u8 w,.ro .u8 b],rfl,rfl,rfl,rfl,⟨rfl,rfl,trivial⟩,rfl,.inl ⟨11,by decide,if_pos (.inl (by((try simp only[nc] at *);omega))),rfl,rfl⟩⟩
 rw[qc,ke] at hz1;cbv;rw[et3];generalize hz2:vc .gtr t3 size=z2;cases z2
 rotate_left
 ·rw[qc,kz] at hz2;cbv;exact⟨[0,1],.tup [.val (.slice none 0 0),.lit .i64 11],[.ro .u8 w,.ro .u8 b],rfl,rfl,rfl,rfl,⟨rfl,rfl,trivial⟩,rfl,.inl ⟨11,by decide,if_pos (.inr hz2),rfl,rfl⟩⟩
 rw[qc,ku] at hz2;have hnb:¬(bl<6∨size<t3):=by rintro(h|h)<;>((try simp only[nc] at *);omega)
 rw[if_neg hnb];obtain⟨ws,hws⟩:∃ws,ws=size-t3:=⟨_,rfl⟩;have ews:vb .sub .i64 size t3=ws:=by rw[qb,ky (by((try simp only[nc] at *);omega)) (by((try simp only[nc] at *);omega)),hws]
 have ht6:vtoN 6=6:=by rw[qtoN];rfl
 obtain⟨o6,ho6⟩:∃o6,o6=vcutN 0 6 cap2:=⟨_,rfl⟩;obtain⟨m6,hm6⟩:∃m6,m6=vsubN bl 6:=⟨_,rfl⟩;obtain⟨c6,hc6'⟩:∃c6,c6=vsubN cap2 6:=⟨_,rfl⟩;have hm6':m6=bl-6:=by rw[hm6,qsubN]
 have hc6'':c6=cap2-6:=by rw[hc6',qsubN]
 have hc6:o6=6∨m6=0∧o6≤bl:=by
  have e:o6=if cap2=6 then 0 else 0+6:=by rw[ho6,qcutN]
  by_cases h:cap2=6
  ·rw[if_pos h] at e;right;constructor<;>((try simp only[nc] at *);omega)
  ·rw[if_neg h] at e;left;((try simp only[nc] at *);omega)
 have hof:∀q:Nat,vofN q=(q:Int):=fun q=>by simp only[qofN]
 cbv;rw[←ho6,←hm6,←hc6'];refine⟨⟨by((try simp only[nc] at *);omega),by((try simp only[nc] at *);omega)⟩,?_⟩
 refine WX.cv (Cv.nilT 11 5 .u8 (by rfl) (by cbv;try exact⟨fun _=>rfl,trivial⟩) (Cv.here ?_))
 cbv;refine kl (α:=Int×Nat×Nat×Nat×Nat×Nat×List Int) ([13,14,15,16,17]++[41,42,43,44,45,46,47,48,49,50,51,52,53,54,55,56,57,58,59,60,61,62,63,64,65,66,67,68,69,70,71,72,73,74,75,76,77,78,79,80,81,82,83,84]) [2] (fun(k,o,m,cp,nL,c,L)=>[(40,.int .i64 k),(12,.slice 1 (.n o) 1 m cp),(11,.slice 2 .z 1 nL c)]) (fun(k,o,m,cp,nL,c,L)=>[(2,.buf 5 .u8 L c)])
  (fun(k,o,m,cp,nL,c,L)=>∃j q:Nat,k+j=4∧q+m=bl∧m≤cp∧(o=q∨m=0∧o≤bl)∧nL=L.length∧nL≤c∧nL+131072*j≤524288∧RF 4 6 []=RF j q L) (fun(k,_,_,_,_,_,_)=>(4-k).toNat) hw hm ?_ ?_
 ·refine Cv.genAt [40] [] (Cv.fold ([13,14,15,16,17]++[41,42,43,44,45,46,47,48,49,50,51,52,53,54,55,56,57,58,59,60,61,62,63,64,65,66,67,68,69,70,71,72,73,74,75,76,77,78,79,80,81,82,83,84]) 3 [2] (by exact Nat.le_refl _) (by exact Nat.le_of_ble_eq_true rfl) (by rfl) (by cbv) ?_)
  intro js;refine⟨(_,_,_,_,_,_,_),?_,js,rfl⟩
  exact⟨4,6,by rfl,by((try simp only[nc] at *);omega),by((try simp only[nc] at *);omega),hc6,rfl,Nat.le_refl _,by decide,rfl⟩
 ·rintro⟨k,o,m,cp,nL,c,L⟩ js ⟨j,q,hkj,hqm,hmc,ho,hnL,hnc,hnb,hRES⟩;obtain⟨mI,hmI⟩:∃mI:Int,mI=m:=⟨_,rfl⟩;have emI:vofN m=mI:=by rw[hof,hmI]
  cbv;generalize hz3:vc .lss k 4=z3;cases z3
  ·rw[qc,ke] at hz3;have hj0:j=0:=by((try simp only[nc] at *);omega)
   subst hj0;rw[hr0] at hRES;cbv;subst hnL;exact⟨[0,1,2],.tup [.slice 2 .z 1 L.length c,.lit .i64 0],[.ro .u8 w,.ro .u8 b,.buf 5 .u8 L c],rfl,rfl,rfl,rfl,⟨rfl,rfl,rfl,trivial⟩,rfl,.inr ⟨L,c,hRES,rfl,rfl,hnc⟩⟩
  ·rw [qc,kf] at hz3
   obtain⟨n1,rfl⟩:∃n1,j=n1+1:=⟨j-1,by((try simp only[nc] at *);omega)⟩;cbv;rw[emI,et3,ews];generalize hz4:vc .lss k 3=z4;cases z4
   ·rw[qc,ke] at hz4;obtain rfl:n1=0:=by((try simp only[nc] at *);omega)
    obtain⟨r1,r2,r3⟩:=hround mI ws 0 q L (by rw[if_neg (by decide)];((try simp only[nc] at *);omega)) (by rw[if_neg (by decide),←ht3,hws]);have hWT:0≤ws∧ws≤131072:=by((try simp only[nc] at *);omega)
    cbv;rw[emI];generalize hz5:vc .gtr mI mI=z5;cases z5
    rotate_left
    ·rw[qc,kz] at hz5;cbv;exact⟨[0,1],.tup [.val (.slice none 0 0),.lit .i64 11],[.ro .u8 w,.ro .u8 b],rfl,rfl,rfl,rfl,⟨rfl,rfl,trivial⟩,rfl,.inl ⟨11,by decide,by rw[hRES];exact r1 (by((try simp only[nc] at *);omega)),rfl,rfl⟩⟩
    rw[qc,ku] at hz5;obtain⟨kN,hkN⟩:∃kN:Nat,mI=kN:=⟨(mI).toNat,by((try simp only[nc] at *);omega)⟩;have htk:vtoN mI=kN:=by rw[qtoN,hkN];exact Int.toNat_natCast kN
    have htk':(mI).toNat=kN:=by rw[hkN];exact Int.toNat_natCast kN
    have hnk:¬(bl:Int)-q<mI:=by((try simp only[nc] at *);omega)
    have r2:=r2 hnk;have r3:=r3 hnk;rw[htk'] at r2 r3;have hu:=hun q kN ws kN (by((try simp only[nc] at *);omega)) hWT;have hvu:=hvs q kN o (by((try simp only[nc] at *);omega)) (by rcases ho with h|⟨h,h'⟩;exact .inl h;exact .inr ⟨by((try simp only[nc] at *);omega),h'⟩)
    have hlu:=fun X=>hlU (SG q kN) ws X
    generalize SG q kN=sgk at *;generalize hUU:UN sgk ws=U at *;cbv;rw[htk];refine⟨⟨by((try simp only[nc] at *);omega),by((try simp only[nc] at *);omega)⟩,⟨by((try simp only[nc] at *);omega),by((try simp only[nc] at *);omega)⟩,?_⟩
    refine ka (ρ:=[(0,.z),(1,.n o)]) hu ⟨by rfl,by rfl,by rfl,by cbv;exact⟨kb _,hvu,trivial⟩⟩ ?_
    rintro v H R js3 ⟨rfl,⟨e,he,hU,rfl,rfl⟩|⟨l,c',hU,rfl,rfl⟩⟩
    ·have ez:vc .neq e 0=true:=by rw[qc,jl];exact he
     cbv;rw[ez];cbv;exact⟨[0,1],.tup [.val (.slice none 0 0),.int .i64 e],[.ro .u8 w,.ro .u8 b],rfl,rfl,rfl,rfl,⟨rfl,rfl,trivial⟩,rfl,.inl ⟨e,he,by rw[hRES];exact r2 hU,rfl,rfl⟩⟩
    ·have r4:=r3 l hU;have hll:=hlu l hU;obtain⟨ln,hln⟩:∃ln,ln=l.length:=⟨_,rfl⟩;rw[←hln] at hll ⊢
     have ez:vc .neq 0 0=false:=by rw[qc];rfl
     have hont:vonto L nL (vsub l 0 ln)=L++l:=by
      rw[qonto,qsub];simp only[List.drop_zero];rw[hnL,hln,List.take_length,List.take_length]
     obtain⟨L2,hL2⟩:∃L2,L2=L++l:=⟨_,rfl⟩;have hL2l:L2.length=nL+ln:=by rw[hL2,List.length_append,hnL,hln]
     rw[←hL2] at r4 hont;have ha2:=haddq nL ln;have ha0:∀x,vaddN 0 x=x:=fun x=>by rw[haddq,Nat.zero_add]
     obtain⟨n2,hn2⟩:∃n2,n2=nL+ln:=⟨_,rfl⟩;rw[←hn2] at ha2 hL2l;obtain⟨o2,ho2⟩:∃o2,o2=vcutN o kN cp:=⟨_,rfl⟩;obtain⟨m2,hm2⟩:∃m2,m2=vsubN m kN:=⟨_,rfl⟩;obtain⟨p2,hp2⟩:∃p2,p2=vsubN cp kN:=⟨_,rfl⟩;have hm2':m2=m-kN:=by rw[hm2,qsubN]
     have hp2':p2=cp-kN:=by rw[hp2,qsubN]
     have ho2':o2=q+kN∨m2=0∧o2≤bl:=by
      have e:o2=if cp=kN then o else o+kN:=by rw[ho2,qcutN]
      rw[e];split<;>rcases ho with h|⟨h,h'⟩<;>((try simp only[nc] at *);omega)
     obtain⟨k1,hk1⟩:∃k1:Int,k1=k+1:=⟨_,rfl⟩;have ek1:vb .add .i64 k 1=k1:=by rw[qb,kh (by((try simp only[nc] at *);omega)) (by((try simp only[nc] at *);omega)),hk1]
     have hmu:∀_:Unit,(4-k1).toNat<(4-k).toNat:=fun _=>by((try simp only[nc] at *);omega)
     have hn2b:n2*1≤140737488355328:=by((try simp only[nc] at *);omega)
     have hlb1:l.length=ln:=hln.symm;cbv;rw[ez];cbv;rw[htk,←ho2,←hm2,←hp2];refine⟨⟨by((try simp only[nc] at *);omega),by((try simp only[nc] at *);omega)⟩,⟨by rw[ha0,hlnq];((try simp only[nc] at *);omega)⟩,⟨by rw[hlnq];((try simp only[nc] at *);omega)⟩,⟨by((try simp only[nc] at *);omega)⟩,⟨by rw[ha2];exact hn2b⟩,?_⟩
     intro c2 js4 hle;have hle':n2≤c2:=by have:=hle.out;simp only at this;rw[ha2] at this;exact this
     cbv;rw[hont,ha2,ek1];refine Cv.fold ([13,14,15,16,17]++[41,42,43,44,45,46,47,48,49,50,51,52,53,54,55,56,57,58,59,60,61,62,63,64,65,66,67,68,69,70,71,72,73,74,75,76,77,78,79,80,81,82,83,84]) 3 [2] (by exact Nat.le_refl _) (by exact Nat.le_of_ble_eq_true rfl) (by rfl) (by cbv) ?_
     intro js;refine⟨(_,_,_,_,_,_,_),?_,js,rfl⟩
     exact⟨⟨0,q+kN,by((try simp only[nc] at *);omega),by((try simp only[nc] at *);omega),by((try simp only[nc] at *);omega),ho2',hL2l.symm,hle',by((try simp only[nc] at *);omega),by rw[hRES,r4]⟩,hmu ()⟩
   ·rw[qc,kf] at hz4;obtain⟨i,hi⟩:∃i,i=3-n1:=⟨_,rfl⟩;have hki:k=i:=by((try simp only[nc] at *);omega)
    obtain⟨kI,hkI⟩:∃kI,kI=W2 i:=⟨_,rfl⟩;obtain⟨r1,r2,r3⟩:=hround kI each n1 q L (by rw[if_pos (by((try simp only[nc] at *);omega)),hkI,hi]) (by rw[if_pos (by((try simp only[nc] at *);omega))]);have hWT:0≤each∧each≤131072:=by((try simp only[nc] at *);omega)
    have hwi:=hw2 i;have hni:=hnum i (vsubN cap2 (2*i)) (by((try simp only[nc] at *);omega));have hvi:=hvs (2*i) 2 (2*i) (by((try simp only[nc] at *);omega)) (.inl rfl);rw[←hkI] at hwi hni;obtain⟨i2,hi2⟩:∃i2:Int,i2=2*k:=⟨_,rfl⟩;obtain⟨i22,hi22⟩:∃i22:Int,i22=i2+2:=⟨_,rfl⟩;have ei2:vb .mul .i64 2 k=i2:=by rw[qb,qV (by((try simp only[nc] at *);omega)) (by((try simp only[nc] at *);omega)),hi2]
    have ei22:vb .add .i64 i2 2=i22:=by rw[qb,kh (by((try simp only[nc] at *);omega)) (by((try simp only[nc] at *);omega)),hi22]
    obtain⟨iN,hiN⟩:∃iN,iN=2*i:=⟨_,rfl⟩;obtain⟨iM,hiM⟩:∃iM,iM=iN+2:=⟨_,rfl⟩;rw[←hiN] at hni hvi;have hti2:vtoN i2=iN:=by rw[qtoN];((try simp only[nc] at *);omega)
    have hti22:vtoN i22=iM:=by rw[qtoN];((try simp only[nc] at *);omega)
    have hcuti:vcutN 0 iN cap2=iN:=by rw[qcutN];simp only;rw[if_neg (by((try simp only[nc] at *);omega))];((try simp only[nc] at *);omega)
    have hsbi:vsubN iM iN=2:=by rw[qsubN];simp only;omega
    have ewk:vw .i64 kI=kI:=by rw[qw];exact wrap_i64 (by((try simp only[nc] at *);omega)) (by((try simp only[nc] at *);omega))
    obtain⟨ci,hci⟩:∃ci,ci=vsubN cap2 iN:=⟨_,rfl⟩;rw[←hci] at hni;generalize SG iN 2=sg2 at *;cbv;rw[ei2,ei22,hti2,hti22,hcuti,hsbi,←hci];refine⟨⟨by((try simp only[nc] at *);omega),by((try simp only[nc] at *);omega)⟩,⟨by((try simp only[nc] at *);omega),by((try simp only[nc] at *);omega)⟩,?_⟩
    refine ka (ρ:=[(1,.n iN)]) hni ⟨by rfl,by rfl,by rfl,by cbv;exact⟨hvi,trivial⟩⟩ ?_
    rintro v H R js2 ⟨rfl,rfl,rfl⟩;cbv;rw[ewk];cbv;rw[emI];generalize hz5:vc .gtr kI mI=z5;cases z5
    rotate_left
    ·rw[qc,kz] at hz5;cbv;exact⟨[0,1],.tup [.val (.slice none 0 0),.lit .i64 11],[.ro .u8 w,.ro .u8 b],rfl,rfl,rfl,rfl,⟨rfl,rfl,trivial⟩,rfl,.inl ⟨11,by decide,by rw[hRES];exact r1 (by((try simp only[nc] at *);omega)),rfl,rfl⟩⟩
    rw[qc,ku] at hz5;obtain⟨kN,hkN⟩:∃kN:Nat,kI=kN:=⟨(kI).toNat,by((try simp only[nc] at *);omega)⟩;have htk:vtoN kI=kN:=by rw[qtoN,hkN];exact Int.toNat_natCast kN
    have htk':(kI).toNat=kN:=by rw[hkN];exact Int.toNat_natCast kN
    have hnk:¬(bl:Int)-q<kI:=by((try simp only[nc] at *);omega)
    have r2:=r2 hnk;have r3:=r3 hnk;rw[htk'] at r2 r3;have hu:=hun q kN each kN (by((try simp only[nc] at *);omega)) hWT;have hvu:=hvs q kN o (by((try simp only[nc] at *);omega)) (by rcases ho with h|⟨h,h'⟩;exact .inl h;exact .inr ⟨by((try simp only[nc] at *);omega),h'⟩)
    have hlu:=fun X=>hlU (SG q kN) each X
    generalize SG q kN=sgk at *;generalize hUU:UN sgk each=U at *;cbv;rw[htk];refine⟨⟨by((try simp only[nc] at *);omega),by((try simp only[nc] at *);omega)⟩,⟨by((try simp only[nc] at *);omega),by((try simp only[nc] at *);omega)⟩,?_⟩
    refine ka (ρ:=[(0,.z),(1,.n o)]) hu ⟨by rfl,by rfl,by rfl,by cbv;exact⟨kb _,hvu,trivial⟩⟩ ?_
    rintro v H R js3 ⟨rfl,⟨e,he,hU,rfl,rfl⟩|⟨l,c',hU,rfl,rfl⟩⟩
    ·have ez:vc .neq e 0=true:=by rw[qc,jl];exact he
     cbv;rw[ez];cbv;exact⟨[0,1],.tup [.val (.slice none 0 0),.int .i64 e],[.ro .u8 w,.ro .u8 b],rfl,rfl,rfl,rfl,⟨rfl,rfl,trivial⟩,rfl,.inl ⟨e,he,by rw[hRES];exact r2 hU,rfl,rfl⟩⟩
    ·have r4:=r3 l hU;have hll:=hlu l hU;obtain⟨ln,hln⟩:∃ln,ln=l.length:=⟨_,rfl⟩;rw[←hln] at hll ⊢
     have ez:vc .neq 0 0=false:=by rw[qc];rfl
     have hont:vonto L nL (vsub l 0 ln)=L++l:=by
      rw[qonto,qsub];simp only[List.drop_zero];rw[hnL,hln,List.take_length,List.take_length]
     obtain⟨L2,hL2⟩:∃L2,L2=L++l:=⟨_,rfl⟩;have hL2l:L2.length=nL+ln:=by rw[hL2,List.length_append,hnL,hln]
     rw[←hL2] at r4 hont;have ha2:=haddq nL ln;have ha0:∀x,vaddN 0 x=x:=fun x=>by rw[haddq,Nat.zero_add]
     obtain⟨n2,hn2⟩:∃n2,n2=nL+ln:=⟨_,rfl⟩;rw[←hn2] at ha2 hL2l;obtain⟨o2,ho2⟩:∃o2,o2=vcutN o kN cp:=⟨_,rfl⟩;obtain⟨m2,hm2⟩:∃m2,m2=vsubN m kN:=⟨_,rfl⟩;obtain⟨p2,hp2⟩:∃p2,p2=vsubN cp kN:=⟨_,rfl⟩;have hm2':m2=m-kN:=by rw[hm2,qsubN]
     have hp2':p2=cp-kN:=by rw[hp2,qsubN]
     have ho2':o2=q+kN∨m2=0∧o2≤bl:=by
      have e:o2=if cp=kN then o else o+kN:=by rw[ho2,qcutN]
      rw[e];split<;>rcases ho with h|⟨h,h'⟩<;>((try simp only[nc] at *);omega)
     obtain⟨k1,hk1⟩:∃k1:Int,k1=k+1:=⟨_,rfl⟩;have ek1:vb .add .i64 k 1=k1:=by rw[qb,kh (by((try simp only[nc] at *);omega)) (by((try simp only[nc] at *);omega)),hk1]
     have hmu:∀_:Unit,(4-k1).toNat<(4-k).toNat:=fun _=>by((try simp only[nc] at *);omega)
     have hn2b:n2*1≤140737488355328:=by((try simp only[nc] at *);omega)
     have hlb1:l.length=ln:=hln.symm;cbv;rw[ez];cbv;rw[htk,←ho2,←hm2,←hp2];refine⟨⟨by((try simp only[nc] at *);omega),by((try simp only[nc] at *);omega)⟩,⟨by rw[ha0,hlnq];((try simp only[nc] at *);omega)⟩,⟨by rw[hlnq];((try simp only[nc] at *);omega)⟩,⟨by((try simp only[nc] at *);omega)⟩,⟨by rw[ha2];exact hn2b⟩,?_⟩
     intro c2 js4 hle;have hle':n2≤c2:=by have:=hle.out;simp only at this;rw[ha2] at this;exact this
     cbv;rw[hont,ha2,ek1];refine Cv.fold ([13,14,15,16,17]++[41,42,43,44,45,46,47,48,49,50,51,52,53,54,55,56,57,58,59,60,61,62,63,64,65,66,67,68,69,70,71,72,73,74,75,76,77,78,79,80,81,82,83,84]) 3 [2] (by exact Nat.le_refl _) (by exact Nat.le_of_ble_eq_true rfl) (by rfl) (by cbv) ?_
     intro js;refine⟨(_,_,_,_,_,_,_),?_,js,rfl⟩
     exact⟨⟨n1,q+kN,by((try simp only[nc] at *);omega),by((try simp only[nc] at *);omega),by((try simp only[nc] at *);omega),ho2',hL2l.symm,hle',by((try simp only[nc] at *);omega),by rw[hRES,r4]⟩,hmu ()⟩

end Go.Proofs.Ytlclleihoampdaa
namespace Go.Proofs.Ytlclleihoampdaa
open Go Go.Sx
end Go.Proofs.Ytlclleihoampdaa
namespace Go.Proofs.Ytlclleihoampdaa
open Go Go.Sx Go.Proofs
set_option maxRecDepth 10000
set_option maxHeartbeats 40000000
theorem kpE (b:List Int) (cap:Nat) (ml ms:Int) (hby:∀x∈b,isByte x) (hl:b.length≤140737488355328) (hml : -9223372036854775808≤ml∧ml≤9223372036854775807) (hms : -9223372036854775808≤ms∧ms≤9223372036854775807)
  (cs0:List Int) (log0 used0:Int) (hR:keH b ml ms=(cs0,log0,used0,0)) :
  Con Try.prog 70 [.slice 0 .z 1 b.length cap,.int .i64 ml,.int .i64 ms] [.ro .u8 b] (fun v H R=>R=[]∧∃c,v=.tup [.slice 1 .z 1 cs0.length c,.int .i64 log0,.int .i64 used0,.int .i64 0]∧H=[.ro .u8 b,.buf 124 .i16 cs0 c]):=by
 have h:Con Try.prog 70 [.slice 0 .z 1 b.length cap,.int .i64 ml,.int .i64 ms] [.ro .u8 b] (fun v H R=>R=[]∧∃c c0 acc hv ai,v=.tup [.slice 5 .z 1 cs0.length c,.int .i64 log0,.int .i64 used0,.int .i64 0] ∧
   H=[.ro .u8 b,.buf 5 .u8 b c0,.one 25 [.slice 1 .z 1 b.length c0],.one 3 [.int .i64 ai],.one 215 [.fn 121 [.ptr 3 .z 1 0,.ptr 2 .z 1 0],.int .u64 acc,.int .i64 hv,.fn 122 [.ptr 2 .z 1 0,.ptr 3 .z 1 0]],.buf 124 .i16 cs0 c]):=by
  refine kj (kA 6 (by simp) (km ((kjc b cap ml ms hby hl hml hms cs0 log0 used0 0 hR).mono ?_)))
  rintro v H R ⟨h1,h2,h3,⟨h4,_⟩|⟨_,h5,c,c0,acc,hv,ai,h6,h7⟩⟩
  ·exact absurd rfl h4
  ·exact⟨h5,h1,c,c0,acc,hv,ai,h6,h7⟩
 refine kfQ [0,5] rfl rfl (h.mono ?_)
 rintro v H R ⟨rfl,c,c0,acc,hv,ai,rfl,rfl⟩;exact⟨.tup [.slice 1 .z 1 cs0.length c,.int .i64 log0,.int .i64 used0,.int .i64 0],[.ro .u8 b,.buf 124 .i16 cs0 c],rfl,rfl,⟨rfl,rfl,trivial⟩,rfl,c,rfl,rfl⟩
theorem koC (b:List Int) (cap:Nat) (ml ms:Int) (hby:∀x∈b,isByte x) (hl:b.length≤140737488355328) (hml : -9223372036854775808≤ml∧ml≤9223372036854775807) (hms : -9223372036854775808≤ms∧ms≤9223372036854775807)
  (cs0:List Int) (log0 used0 e0:Int) (hR:keH b ml ms=(cs0,log0,used0,e0)) (he:e0≠0) :
  Con Try.prog 70 [.slice 0 .z 1 b.length cap,.int .i64 ml,.int .i64 ms] [.ro .u8 b] (fun v H R=>R=[]∧v=.tup [.val (.slice none 0 0),.int .i64 0,.int .i64 0,.int .i64 e0]∧H=[.ro .u8 b]):=by
 refine kj (kA 1 (by simp) (km ((kjc b cap ml ms hby hl hml hms cs0 log0 used0 e0 hR).mono ?_)))
 rintro v H R ⟨h1,h2,h3,⟨_,h4⟩|⟨h4,_⟩⟩
 ·exact⟨h2,h1,h4,h3⟩
 ·exact absurd h4 he
theorem kdu {b:List Int} {pos n:Nat} {x:Int} (h:rdN b pos n=some x):pos+n≤8*b.length∧0≤x∧x<2^n:=by
 unfold rdN at h;split at h
 ·rename_i hp;have:=jp (jx b) (ka4 b) pos n;rw[Option.some.injEq] at h;exact⟨hp,by omega,by omega⟩
 ·cases h
theorem kkB {b:List Int} {pos pos':Nat} {most v x:Int} (hm:2≤most∧most≤4097) (hr:rdN b pos (kK most-1).toNat=some v) (h:kgo b pos most v=some (x,pos')):0≤x∧x≤8192∧pos'≤8*b.length:=by
 obtain⟨h1,h2,h3⟩:=kdu hr;obtain⟨k,hk,hk1,hk2⟩:=qn (x:=most) (by omega);have e1:(kK most-1).toNat=k:=by omega
 have e2:(kK most).toNat=k+1:=by omega
 have hp:(2:Int)^(k+1)=2^k*2:=Int.pow_succ _ _;rw[e1] at h1 h3;unfold kgo at h;rw[e1,e2,hp] at h;split at h
 ·split at h
  ·cases h
  ·rename_i top ht;have h4:=(kdu ht).1;simp only[Option.some.injEq,Prod.mk.injEq] at h;obtain⟨h5,h6⟩:=h;split at h5
   ·omega
   ·omega
 ·simp only[Option.some.injEq,Prod.mk.injEq] at h;omega
theorem kb0 (b:List Int) (ms:Int):∀(f:Nat) (fl:Bool) (left:Int) (cs:List Int) (pos:Nat) (cs':List Int) (pos':Nat),left≤4096→(∀c∈cs,jF c)→pos≤8*b.length →
  readS b ms f fl left cs pos=(0,cs',pos')→(∀c∈cs',jF c)∧pos'≤8*b.length
 |0,fl,left,cs,pos,cs',pos',h1,h2,h3,h=>by
  simp only[readS,Prod.mk.injEq] at h;obtain⟨_,rfl,rfl⟩:=h;exact⟨h2,h3⟩
 | f+1,false,left,cs,pos,cs',pos',h1,h2,h3,h=>by
  rw[readS] at h;split at h
  ·simp only[Prod.mk.injEq] at h;obtain⟨_,rfl,rfl⟩:=h;exact⟨h2,h3⟩
  rename_i hl0;split at h
  ·simp at h
  split at h
  ·simp at h
  rename_i v hv;split at h
  ·simp at h
  rename_i x p2 hx;obtain⟨h4,h5,h6⟩:=kkB (by omega) hv hx;have hcs:∀c∈cs++[x-1],jF c:=fun c hc=>(List.mem_append.1 hc).elim (h2 c) (fun e=>by rw[List.mem_singleton.1 e];unfold jF;omega)
  have hpn:0≤kE (x-1):=by unfold kE;split<;>omega
  split at h
  ·exact kb0 b ms f false _ _ _ cs' pos' (by omega) hcs h6 h
  ·split at h
   ·simp at h
   ·exact kb0 b ms f true _ _ _ cs' pos' (by omega) hcs h6 h
 |f+1,true,left,cs,pos,cs',pos',h1,h2,h3,h=>by
  rw[readS] at h;split at h
  ·simp at h
  rename_i n hn;have h4:=(kdu hn).1;have hcs:∀c∈cs++List.replicate n.toNat 0,jF c:=fun c hc=>(List.mem_append.1 hc).elim (h2 c) (fun e=>by rw[(List.mem_replicate.1 e).2];unfold jF;omega)
  split at h
  ·simp at h
  split at h
  ·exact kb0 b ms f true _ _ _ cs' pos' h1 hcs h4 h
  ·exact kb0 b ms f false _ _ _ cs' pos' h1 hcs h4 h
theorem koD {b cs:List Int} {ml ms log used:Int} (h:keH b ml ms=(cs,log,used,0)):(∀c∈cs,jF c)∧0≤used∧used≤b.length∧5≤log∧log≤12:=by
 unfold keH at h;split at h
 ·simp at h
 rename_i hml;split at h
 ·simp at h
 rename_i x hx;obtain⟨h1,h2,h3⟩:=kdu hx;split at h
 ·simp at h
 rename_i hxm;split at h
 ·simp only[Prod.mk.injEq] at h;rename_i he;exact absurd h.2.2.2 he
 rename_i he;simp only[Prod.mk.injEq] at h;obtain⟨rfl,rfl,rfl,_⟩:=h;have hpl:=kaM (log:=x+5) (by omega);have:=kb0 b ms 600 false _ [] 4 _ _ hpl.2 (by simp) (by omega) (show readS b ms 600 false (2^(x+5).toNat) [] 4=(0,(readS b ms 600 false (2^(x+5).toNat) [] 4).2.1,(readS b ms 600 false (2^(x+5).toNat) [] 4).2.2) by
  rw[show(0:Int)=(readS b ms 600 false (2^(x+5).toNat) [] 4).1 by rw[Decidable.not_not.1 he]])
 refine⟨this.1,?_,?_,by omega,by omega⟩
 ·have:=this.2;omega
 ·have:=this.2;omega
theorem koE {x:Int} (h:65536≤x):kK x=16+kK (x / 65536):=by
 have e:x / 65536=x / 256 / 256:=by omega
 rw[e,kfU (x:=x) (by omega),kfU (x:=x / 256) (by omega)];omega
set_option maxRecDepth 100000 in
theorem kmM (x:Int) (hx:65536≤x∧x<16777216):Con Try.prog 106 [.int .u64 x] [] (fun v H R=>v=.int .i64 (kK x)∧H=[]∧R=[]):=by
 refine kj (kg kr kp4 ?_)
 intro vb vc vw vtoN _ _ _ _ _ _ vgd _ vln _ _ _ _ _ vbyteV _ _ _ qb qc qw qtoN _ _ _ _ _ _ qgd _ qln _ _ _ _ _ qbyteV _ _;have hm:=kr;generalize Try.prog=P at *;have hl:lenTab.length=256:=by rfl
 have key:∀y:Int,0≤y→y<256→vw .i64 (vbyteV (vgd lenTab (vtoN y)))=kK y:=by
  intro y h0 h1;obtain⟨n,rfl⟩:∃n:Nat,y=n:=⟨y.toNat,by omega⟩;rw[qw,qbyteV,qgd,qtoN];exact keB ⟨n,by omega⟩
 have hb:=@koE x hx.1;have hbr:=@kok (x / 65536) (by omega) (by omega);have e1:kqq=(.seq (.ops [⟨(some 2),.mv (.k (.lit .i64 0)),none,[]⟩])
  (.seq (.seq (.ops [⟨(some 3),.mv (.t 0),none,[]⟩,
   ⟨(some 4),.cmp .geq (.t 3) (.k (.lit .u64 4294967296)),none,[]⟩])
  (.cond (.t 4) (.seq (.ops [⟨(some 5),.mv (.t 0),none,[]⟩,
   ⟨(some 6),.bin .shr .u64 (.t 5) (.k (.lit .u64 32)),none,[]⟩,
   ⟨(some 0),.mv (.t 6),none,[]⟩])
  (.ops [⟨(some 2),.mv (.k (.lit .i64 32)),none,[]⟩])) (.skip)))
  (.seq (.seq (.ops [⟨(some 7),.mv (.t 0),none,[]⟩,
   ⟨(some 8),.cmp .geq (.t 7) (.k (.lit .u64 65536)),none,[]⟩])
  (.cond (.t 8) (.seq (.ops [⟨(some 9),.mv (.t 0),none,[]⟩,
   ⟨(some 10),.bin .shr .u64 (.t 9) (.k (.lit .u64 16)),none,[]⟩,
   ⟨(some 0),.mv (.t 10),none,[]⟩])
  (.ops [⟨(some 11),.mv (.t 2),none,[]⟩,
   ⟨(some 12),.bin .add .i64 (.t 11) (.k (.lit .i64 16)),none,[]⟩,
   ⟨(some 2),.mv (.t 12),none,[]⟩])) (.skip)))
  (.seq (.seq (.ops [⟨(some 13),.mv (.t 0),none,[]⟩,
   ⟨(some 14),.cmp .geq (.t 13) (.k (.lit .u64 256)),none,[]⟩])
  (.cond (.t 14) (.seq (.ops [⟨(some 15),.mv (.t 0),none,[]⟩,
   ⟨(some 16),.bin .shr .u64 (.t 15) (.k (.lit .u64 8)),none,[]⟩,
   ⟨(some 0),.mv (.t 16),none,[]⟩])
  (.ops [⟨(some 17),.mv (.t 2),none,[]⟩,
   ⟨(some 18),.bin .add .i64 (.t 17) (.k (.lit .i64 8)),none,[]⟩,
   ⟨(some 2),.mv (.t 18),none,[]⟩])) (.skip)))
  (.seq (.ops [⟨(some 19),.mv (.t 2),none,[]⟩,
   ⟨(some 20),.mv (.t 0),none,[]⟩,
   ⟨(some 21),.conv .u8 (.t 20),none,[]⟩,
   ⟨(some 22),.idxS (.k (.str lenTab)) (.t 21),none,[]⟩,
   ⟨(some 23),.conv .i64 (.t 22),none,[]⟩,
   ⟨(some 24),.bin .add .i64 (.t 19) (.t 23),none,[]⟩,
   ⟨(some 2),.mv (.t 24),none,[]⟩])
  (.ret)))))):=rfl
 rw[e1];have hll:vln lenTab=256:=by rw[qln];exact hl
 generalize lenTab=T at *;have d1:vc .geq x 4294967296=false:=by rw[qc,kO];omega
 have d2:vc .geq x 65536=true:=by rw[qc,jb];omega
 have d3:vc .geq (x / 65536) 256=false:=by rw[qc,kO];omega
 have s1:vb .shr .u64 x 16=x / 65536:=by rw[qb];show x.fdiv (2^16)=_;rw[Int.fdiv_eq_ediv_of_nonneg _ (by omega)];rfl
 have w1:vw .u8 (x / 65536)=x / 65536:=by rw[qw];exact wrap_u8 (by omega) (by omega)
 have hk:=key (x / 65536) (by omega) (by omega);generalize hbl:kK x=bl at *;generalize hbl2:kK (x / 65536)=bl2 at *;generalize hx6:x / 65536=x6 at *;cbv;rw[d1];cbv;rw[d2];cbv;rw[s1,d3];cbv;rw[w1,hk];refine⟨⟨?_⟩,?_,trivial⟩
 ·rw[hll];omega
 ·congr 1
  rw[qb,kh (by omega) (by omega)];omega
theorem koF (x:Int) (hx:0≤x∧x<16777216):Con Try.prog 78 [.int .u64 x] [] (fun v H R=>v=.int .i64 (kK x)∧H=[]∧R=[]):=by
 by_cases h:x<65536
 ·exact kdh x ⟨hx.1,h⟩
 have hc:=kmM x ⟨by omega,hx.2⟩;refine kj (kg kr kro ?_)
 intro _ _ _ _ _ _ _ _ _ _ _ _ _ _ _ _ _ _ _ _ _ _ _ _ _ _ _ _ _ _ _ _ _ _ _ _ _ _ _ _ _ _ _;have hm:=kr;generalize Try.prog=P at *;generalize kK x=bl at *;cbv;refine ka (ρ:=[]) hc ⟨by rfl,by rfl,by rfl,by cbv⟩ ?_
 rintro v H R js ⟨rfl,rfl,rfl⟩;cbv
def smA (t:List Int):Int:=sm t t.length
def OkE (t l:List Int):Prop:=t.length≤255∧(∀i,i<t.length→t.getD i 0≤11)∧0<smA t∧(∃k:Nat,2^(kK (smA t)).toNat-smA t=2^k∧l=t++[(k:Int)+1])∧∃M,Wt l M
theorem OkE.uniq {t l l':List Int} (h:OkE t l) (h':OkE t l'):l=l':=by
 obtain⟨_,_,_,⟨k,h1,h2⟩,_⟩:=h;obtain⟨_,_,_,⟨k',h3,h4⟩,_⟩:=h';have:k=k':=klg (h1.symm.trans h3);rw[h2,h4,this]
theorem kmN {x:Int} (h:0<x):x<2^(kK x).toNat∧2^(kK x).toNat≤2*x:=by
 obtain⟨k,h1,h2,h3⟩:=qn h;have e:(kK x).toNat=k+1:=by omega
 rw[e];refine⟨h3,?_⟩
 rw[Int.pow_succ];omega
end Go.Proofs.Ytlclleihoampdaa
