import Derived.Test.YtlclleihoampdaaA2
import Derived.Test.YtlclleihoampdaaED
import Derived.Test.YtlclleihoampdaaA3
set_option linter.unusedVariables false
set_option linter.unusedSimpArgs false
namespace Go.Proofs.Ytlclleihoampdaa
open Go Go.Sx Go.Proofs
set_option maxRecDepth 10000
set_option maxHeartbeats 40000000
theorem kjB (b:List Int) (p:Int) (a:Nat):∀c,rd b p (a+c)=rd b p a*2^c+rd b (p-a) c
  |0=>by simp[rd]
  | c+1=>by
    rw[←Nat.add_assoc];simp only[rd];rw[kjB b p a c,p2s,show p-1-((a+c:Nat):Int)=p-a-1-c by push_cast;omega,←Int.mul_assoc,Int.add_mul];omega
theorem kqk (b:List Int) (p:Int) (a c:Nat):rd b p (a+c) % 2^c=rd b (p-a) c:=by
  have h:=jg b (p-a) c;rw[kjB,Int.add_comm,Int.add_mul_emod_self_right,Int.emod_eq_of_lt h.1 h.2]
open Classical in
noncomputable def dc (l:List Int) (t:Int):Nat:=if h:∃c,Dc l t c then h.choose else 0
theorem kpV {l:List Int} (h:∀c∈l,kF c) {t:Int} {c:Nat} (hc:Dc l t c):dc l t=c:=by
  have he:∃c,Dc l t c:=⟨c,hc⟩;unfold dc;rw[dif_pos he];exact Dc.uniq h he.choose_spec hc
theorem kow {l:List Int} {M:Nat} (h:∀c∈l,kF c) (hW:Wt l M) {t:Int} (h0:0≤t) (ht:t<2^M):Dc l t (dc l t):=by
  obtain⟨c,hc⟩:=Dc.ex h hW h0 ht;rw[kpV h hc];exact hc
theorem Dc.sy {l:List Int} {t:Int} {c:Nat} (h:Dc l t c):Sy l c:=⟨h.1,h.2.1⟩
noncomputable def pos (l:List Int) (M:Nat) (b:List Int) (p:Int):Nat→Int
  |0=>p
  |j+1=>pos l M b p j-nA l M (dc l (rd b (pos l M b p j) M))
noncomputable def sym (l:List Int) (M:Nat) (b:List Int) (p:Int) (j:Nat):Nat:=dc l (rd b (pos l M b p j) M)
noncomputable def ket (l:List Int) (M:Nat) (b:List Int) (p:Int) (j:Nat):List Int:=(List.range j).map fun i=>(sym l M b p i:Int)
theorem kiF {l:List Int} {M:Nat} (h:∀c∈l,kF c) (hW:Wt l M) (b:List Int) (p:Int) (j:Nat):pos l M b p (j+1)=pos l M b p j-nA l M (sym l M b p j)∧1≤nA l M (sym l M b p j)∧nA l M (sym l M b p j)≤M ∧
    Dc l (rd b (pos l M b p j) M) (sym l M b p j)∧Sy l (sym l M b p j):=by
  have hr:=jg b (pos l M b p j) M;have hd:Dc l (rd b (pos l M b p j) M) (sym l M b p j):=kow h hW hr.1 hr.2;have hn:=knj hW (sym l M b p j);refine⟨rfl,?_,hn.2.1,hd,hd.sy⟩
  have:¬nA l M (sym l M b p j)=0:=fun e=>hn.2.2.1 e hd.sy
  omega
theorem kiG {l:List Int} {M:Nat} (h:∀c∈l,kF c) (hW:Wt l M) (b:List Int) (p:Int) {i:Nat}:∀{j:Nat},i≤j→pos l M b p j+(j:Int)≤pos l M b p i+i
  | 0, hij => by obtain rfl:i=0:=by omega
                 exact Int.le_refl _
  | j + 1,hij=>by
    by_cases e:i=j+1
    · subst e;exact Int.le_refl _
    · have h1:=kiG h hW b p (i:=i) (j:=j) (by omega)
      have h2:=kiF h hW b p j
      push_cast
      omega
theorem kiH (l:List Int) (M:Nat) (b:List Int) (p:Int) (j:Nat):(ket l M b p j).length=j:=by simp[ket]
theorem klK (l:List Int) (M:Nat) (b:List Int) (p:Int) (j:Nat):ket l M b p (j+1)=ket l M b p j++[(sym l M b p j:Int)]:=by simp[ket,List.range_succ]
def TI (l:List Int) (M:Nat) (G:Int) (A B:Nat→Int):Prop:=∀t:Nat,(t:Int)<G→A t=dc l t∧B t=nA l M (dc l t)
theorem TI.zero (l:List Int) (M:Nat) (A B:Nat→Int):TI l M 0 A B:=fun t ht=>by omega
theorem TI.put {l:List Int} {M:Nat} (h:∀c∈l,kF c) {A B:Nat→Int} {L i k t:Nat} (hn:i<l.length) (hL:1≤L) (hi:l.getD i 0=L) (hk:(k:Int)<2^(L-1)) (ht:(t:Int)=gs l L i+k)
    (hT:TI l M (gs l L i+k) A B):TI l M (gs l L i+((k+1:Nat):Int)) (qm A t i) (qm B t ((M:Int)+1-L)):=by
  have hw:wn l i=L:=by unfold wn;omega
  have hD:Dc l t i:=⟨hn,by omega,by rw[hw];omega,by rw[hw];omega⟩;have hsy:Sy l i:=hD.sy;intro u hu;rw[je,je];by_cases e:u=t
  · subst e
    rw[if_pos rfl,if_pos rfl,kpV h hD];refine⟨rfl,?_⟩
    unfold nA;rw[if_pos hsy,hw]
  · rw[if_neg e,if_neg e]
    exact hT u (by push_cast at hu;omega)
theorem klL (l b:List Int) (cap cap2:Nat) (M:Nat) (N:Int) (hl:∀c∈l,kF c) (hb:∀c∈b,isByte c) (hW:Wt l M) (hN:0≤N∧N≤131072) (hbl:b.length≤140737488355328) (hlast:b.getLastD 0≠0) (p0:Int)
    (hp0:p0=8*(b.length-1)+(len8 (b.getLastD 0)-1)) (hp1:0≤p0∧p0≤8*b.length) :
    Con Try.prog 89 [.slice 0 .z 1 l.length cap,.slice 1 .z 1 b.length cap2,.int .i64 N] [.ro .u8 l,.ro .u8 b]
      (fun v H R=>R=[]∧∃L c',H=[.ro .u8 l,.ro .u8 b,.free,.free,.free,.free,.free,.free,.free,.free,.buf 5 .u8 L c'] ∧
        ((v=.tup [.val (.slice none 0 0),.int .i64 11]∧pos l M b p0 N.toNat≠0) ∨
         (v=.tup [.slice 10 .z 1 L.length c',.int .i64 0]∧L=ket l M b p0 N.toNat∧pos l M b p0 N.toNat=0∧L.length≤c'))):=by
  have hsz:=kbZ l cap M hl (by have:=hW.2.1;omega) (.inl ⟨M,hW,rfl⟩);have hnew:=kft b cap2 hlast hb hbl;rw[←hp0] at hnew;have hbits:=fun cap p n hp=>kfr b cap p n hb hp (by omega)
  have hleft:=fun cap p=>kfs b b.length cap p
  have hps:=fun j=>kiF hl hW b p0 j
  have hpd:=fun i j h=>@kiG l M hl hW b p0 i j h
  have hol:=kiH l M b p0;have hos:=klK l M b p0;have ho0:ket l M b p0 0=[]:=rfl;have hpos0:pos l M b p0 0=p0:=rfl;have hrb:=fun p n=>jg b p n
  have hra:=fun p a c=>kjB b p a c
  have hrm:=fun p a c=>kqk b p a c
  have hr0:∀p,rd b p 0=0:=fun _=>rfl
  have hti0:=fun A B=>TI.zero l M A B
  have htip:=fun A B L i k t=>@TI.put l M hl A B L i k t
  have htid:∀G A B,TI l M G A B→∀t:Nat,(t:Int)<G→A t=dc l t∧B t=nA l M (dc l t):=fun G A B h=>h
  have hfl:∀p:Int,-1099511627776≤p→qD p=p:=fun p h=>by unfold qD;rw[if_neg (by omega)]
  have hcl:∀n:Int,0≤n→n≤11→jO n=n.toNat:=fun n h1 h2=>by unfold jO;rw[if_neg (by omega),if_neg (by omega)]
  have hsymd:∀j,sym l M b p0 j=dc l (rd b (pos l M b p0 j) M):=fun _=>rfl
  have hdl:∀j,sym l M b p0 j<l.length:=fun j=>(hps j).2.2.2.1.1
  refine kf (kmT [2,3,4,5,6,7,8,9] (kw 11 (by simp) (kg (kc kj kop ?_))))
  intro vb vc vw vtoN vofN vaddN _ _ _ _ vgd _ vln _ vsub vonto _ _ _ vnotB _ hw qb qc qw qtoN qofN qaddN _ _ _ _ qgd _ qln _ qsub qonto _ _ _ qnotB _;have f16:=kse;have f33:=kq7;have hm:=kj;generalize Try.prog=P at *;have hM1:=hW.pos;have hM11:=hW.2.2.2.2.2.2;have hn2:=hW.1;have hn256:=hW.2.1;have hgs0:=knf l hl;have hgss:=kdg l;have hgsn:=fun L hL=>@kdh l L hL
  have hgsr:=fun L i h1 h2 h3=>@kni l M hW L i h1 h2 h3
  have hgd:=fun L i h1 h2=>@kqi l M hW L h1 h2 i
  have hgf:gs l (M+2) 0=2^M:=by rw[kdh l (by omega),khe hW _ (by omega)]
  have hge:=jB hl;clear hW;generalize ket l M b p0=OUT at *;generalize sym l M b p0=SYM at *;generalize pos l M b p0=POS at *;generalize dc l=DC at *;generalize nA l M=NA at *;generalize TI l M=TIl at *;generalize Dc l=DCl at *;generalize Sy l=SY at *;generalize rd b=RD at *;generalize jO=CL at *;generalize qD=FL at *;generalize gs l=GS at *;obtain⟨mI,hmI⟩:∃mI:Int,mI=M:=⟨_,rfl⟩;rw[←hmI] at hsz;generalize hn:l.length=n at *;generalize hlb:b.length=lb at *;have hto:∀i:Nat,vtoN (i:Int)=i:=fun i=>by simp only[qtoN,Int.toNat_natCast]
  have hadd0:∀i,vaddN 0 i=i:=fun i=>by simp only[qaddN,Nat.zero_add]
  have hvln:vln l=n:=by simp only[qln,hn]
  have hvlb:vln b=lb:=by simp only[qln,hlb]
  have hvgd:∀l i,vgd l i=l.getD i 0:=fun l i=>by simp only[qgd]
  have hnf1:vnotB true=false:=by simp only[qnotB];rfl
  have d1:vc .eql mI 0=false:=by rw[qc,kh];omega
  have d2:vc .lss N 0=false:=by rw[qc,km];omega
  have d3:vc .gtr N 131072=false:=by rw[qc,gtr_false];omega
  cbv;refine ka (ρ:=[(0,.z)]) hsz ⟨by rfl,by rfl,by rfl,by cbv;exact⟨⟨⟨by omega,fun i _=>by rw[Nat.zero_add]⟩⟩,trivial⟩⟩ ?_
  rintro v H R js ⟨rfl,rfl,rfl⟩;cbv;rw[d1];cbv;rw[d2];cbv;rw[d3];cbv;refine ka (ρ:=[(1,.z)]) hnew ⟨by rfl,by rfl,by rfl,by cbv;exact⟨⟨⟨by omega,fun i _=>by rw[Nat.zero_add]⟩⟩,trivial⟩⟩ ?_
  rintro v H R js ⟨rfl,rfl,cb,rfl⟩;cbv;refine kgj hw hm f16 (by rfl) ?_
  cbv;refine⟨fun _=>rfl,fun _=>rfl,?_⟩
  intro js;refine kbf (by rfl) (by rfl) (by cbv;exact⟨fun _=>rfl,trivial⟩) (by cbv;exact⟨fun _=>rfl,trivial⟩) (by rfl) ?_
  refine kgj hw hm f33 (by rfl) ?_
  cbv;refine WX.cv (Cv.arrEq 5 (fun m=>[.int .u8 0,.int .i64 0]) (by rfl) (by intro i;rfl) (Cv.here ?_))
  obtain⟨m1,hm1⟩:∃m1:Int,m1=mI+1:=⟨_,rfl⟩;have em1:vb .add .i64 mI 1=m1:=by(try simp only[nc] at *);rw[qb,ku (by omega) (by omega)];omega
  have en:vofN n=(n:Int):=by simp only[qofN]
  refine kG (α:=Int×Int×(Nat→Int)×(Nat→Int)) [6,7,8,9,10,11,12,13,14,15,16,17,18,19,20,21,22,23,24,25,26,27,28,29,30,31,32,33,34,35,36,37,38,39,40,41,42,43,44,45,46] [] (fun(k,x,_,_)=>[(5,.int .i64 k),(4,.int .i64 x)]) (fun(_,_,A,B)=>[(5,.arr 210 2 2048 (fun m=>[.int .u8 (A m),.int .i64 (B m)]))])
    (fun(k,x,A,B)=>∃L:Nat,k=L∧1≤L∧L≤M+2∧x=GS L 0∧TIl (GS L 0) A B) (fun(k,_)=>M+2-k.toNat) hw hm ?_ ?_
  · refine Cv.genAt [5,4] [] (Cv.fold [6,7,8,9,10,11,12,13,14,15,16,17,18,19,20,21,22,23,24,25,26,27,28,29,30,31,32,33,34,35,36,37,38,39,40,41,42,43,44,45,46] 10 [] (by exact Nat.le_refl _) (by exact Nat.le_of_ble_eq_true rfl) (by rfl) (by cbv) ?_)
    intro js;refine⟨(_,_,_,_),?_,js,rfl⟩
    exact⟨1,rfl,by omega,by omega,hgs0.symm,by rw[hgs0];exact hti0 _ _⟩
  · rintro ⟨k, x, A,B⟩ js ⟨L,hk,hL1,hL2,hx,hT⟩
    cbv;rw[em1];generalize hz1:vc .leq k m1=z1;cases z1
    rotate_left
    · rw [qc, kc5] at hz1
      have hlt:L≤M+1:=by((try simp only[nc] at *);omega)
      have hgn:=hgsn L hL1;obtain⟨k1,hk1⟩:∃k1:Int,k1=((L+1:Nat):Int):=⟨_,rfl⟩;have ek:vb .add .i64 k 1=k1:=by(try simp only[nc] at *);rw[qb,ku (by omega) (by omega)];omega
      have hmu:∀_:Unit,M+2-k1.toNat<M+2-k.toNat:=fun _=>by((try simp only[nc] at *);omega)
      cbv;rw[en];refine kG (α:=Int×Int×(Nat→Int)×(Nat→Int)) ([6,7]++[17,18,19,20,21,22,23,24,25,26,27,28,29,30,31,32,33,34,35,36,37,38,39,40,41,42,43,44,45,46]) [] (fun(q,x,_,_)=>[(16,.int .i64 q),(4,.int .i64 x)]) (fun(_,_,A,B)=>[(5,.arr 210 2 2048 (fun m=>[.int .u8 (A m),.int .i64 (B m)]))])
        (fun(q,x,A,B)=>∃i:Nat,q=i∧i≤n∧x=GS L i∧TIl (GS L i) A B) (fun(q,_)=>n-q.toNat) hw hm ?_ ?_
      · refine Cv.genAt [16,4] [] (Cv.fold ([6,7]++[17,18,19,20,21,22,23,24,25,26,27,28,29,30,31,32,33,34,35,36,37,38,39,40,41,42,43,44,45,46]) 10 [] (by exact Nat.le_refl _) (by exact Nat.le_of_ble_eq_true rfl) (by rfl) (by cbv) ?_)
        intro js;refine⟨(_,_,_,_),?_,js,rfl⟩
        exact⟨0,rfl,by omega,hx,hT⟩
      · rintro⟨q,x,A,B⟩ js2 ⟨i,hq,hi,hx,hT⟩
        cbv;generalize hz2:vc .lss q (n:Int)=z2;cases z2
        · rw[qc,km] at hz2
          obtain rfl:i=n:=by((try simp only[nc] at *);omega)
          cbv;rw[ek];refine Cv.fold [6,7,8,9,10,11,12,13,14,15,16,17,18,19,20,21,22,23,24,25,26,27,28,29,30,31,32,33,34,35,36,37,38,39,40,41,42,43,44,45,46] 10 [] (by exact Nat.le_refl _) (by exact Nat.le_of_ble_eq_true rfl) (by rfl) (by cbv) ?_
          intro js;refine⟨(_,_,_,_),?_,js,rfl⟩
          exact⟨⟨L+1,hk1,by omega,by omega,by rw[hx,hgn],by rw[hgn];exact hT⟩,hmu ()⟩
        · rw [qc, ko] at hz2
          have hlt2:i<n:=by((try simp only[nc] at *);omega)
          have hti:vtoN q=i:=by rw[hq];exact hto i
          have hinR:0≤q∧q<(n:Int):=by((try simp only[nc] at *);omega)
          obtain⟨q1,hq1⟩:∃q1:Int,q1=((i+1:Nat):Int):=⟨_,rfl⟩;have eq1:vb .add .i64 q 1=q1:=by(try simp only[nc] at *);rw[qb,ku (by omega) (by omega)];omega
          have hmu2:∀_:Unit,n-q1.toNat<n-q.toNat:=fun _=>by((try simp only[nc] at *);omega)
          have hx0:=hge i;have hgs1:=hgss L i;have hr1:=hgsr L i hL1 hlt (by omega);have hr2:=hgsr L (i+1) hL1 hlt (by omega);have hdv:=hgd L i hL1 hlt;have hp11:(2:Int)^M≤2^11:=qV hM11;cbv;rw[hti,hadd0,hvgd];refine⟨⟨hinR⟩,⟨by omega⟩,⟨by omega⟩,?_⟩
          generalize hxi:l.getD i 0=y at *;have ew:vw .i64 y=y:=by rw[qw];exact wrap_i64 (by omega) (by omega)
          rw[ew];generalize hz3:vc .neq y k=z3;cases z3
          rotate_left
          · rw[qc,kz] at hz3
            have hne:y≠(L:Int):=by((try simp only[nc] at *);omega)
            rw[if_neg hne] at hgs1;cbv;rw[eq1];refine Cv.fold ([6,7]++[17,18,19,20,21,22,23,24,25,26,27,28,29,30,31,32,33,34,35,36,37,38,39,40,41,42,43,44,45,46]) 10 [] (by exact Nat.le_refl _) (by exact Nat.le_of_ble_eq_true rfl) (by rfl) (by cbv) ?_
            intro js;refine⟨(_,_,_,_),?_,js,rfl⟩
            exact⟨⟨i+1,hq1,hlt2,by rw[hx,hgs1];omega,by rw[hgs1,Int.add_zero];exact hT⟩,hmu2 ()⟩
          · rw[qc,kQ] at hz3
            have hyL:y=(L:Int):=by(try simp only[nc] at *);omega
            rw[if_pos hyL] at hgs1;obtain⟨k0,hk0⟩:∃k0:Int,k0=((L-1:Nat):Int):=⟨_,rfl⟩;have ek0:vb .sub .i64 k 1=k0:=by(try simp only[nc] at *);rw[qb,kJ (by omega) (by omega)];omega
            have ew0:vw .u64 k0=k0:=by(try simp only[nc] at *);rw[qw];exact wrap_u64 (by omega) (by omega)
            obtain⟨x1,hx1⟩:∃x1:Int,x1=GS L i / 2^(L-1):=⟨_,rfl⟩;have hpL:(0:Int)<2^(L-1):=p2 _;have hpL2:(2:Int)^(L-1)≤2^11:=qV (by omega);have hx1r:0≤x1∧x1≤2048:=by
              rw[hx1];have a1:=Int.ediv_nonneg hr1.1 (Int.le_of_lt hpL);have a2:=Int.ediv_le_self (2^(L-1)) hr1.1;constructor
              · exact a1
              · (try simp only[nc] at *);omega
            have es:vb .shr .i64 x k0=x1:=by
              rw[qb,jE (by show k0≤64;(try simp only[nc] at *);omega),hx1,hx,hk0,Int.toNat_natCast]
            have ew1:vw .u64 x1=x1:=by rw[qw];exact wrap_u64 (by omega) (by omega)
            obtain⟨n1,hn1⟩:∃n1:Int,n1=(M:Int)+1-L:=⟨_,rfl⟩;have en1:vb .sub .i64 m1 k=n1:=by(try simp only[nc] at *);rw[qb,kJ (by omega) (by omega)];omega
            have hk00:0≤k0:=by((try simp only[nc] at *);omega)
            obtain⟨s1,hs1⟩:∃s1:Int,s1=2^(L-1):=⟨_,rfl⟩;have esl:vb .shl .i64 1 k0=s1:=by
              rw[qb,hs1,hk0];show IntKind.i64.wrap (1*2^(min (((L-1:Nat):Int).toNat) IntKind.i64.bits))=_
              rw[Int.toNat_natCast,show min (L-1) IntKind.i64.bits=L-1 by simp[IntKind.bits];omega,Int.one_mul];exact wrap_i64 (by omega) (by omega)
            obtain⟨x2,hx2⟩:∃x2:Int,x2=GS L (i+1):=⟨_,rfl⟩;have ex2:vb .add .i64 x s1=x2:=by
              have e:x+s1=x2:=by rw[hx2,hgs1,hx,hs1]
              rw[qb,ku (by(try simp only[nc] at *);omega) (by(try simp only[nc] at *);omega),e]
            cbv;rw[ek0,ew0,es,ew1,em1,en1];refine⟨⟨hk00⟩,?_⟩
            refine kbg hw hm (by rfl) ?_
            have ed0:vb .sub .i64 mI n1=k0:=by(try simp only[nc] at *);rw[qb,kJ (by omega) (by omega)];omega
            have efr:vb .shl .u64 x1 k0=x:=by
              have hb64:(2:Int)^(IntKind.u64).bits=18446744073709551616:=by decide
              have e:x1*2^k0.toNat=x:=by rw[hk0,Int.toNat_natCast,hx1,hx];exact hdv.symm
              rw[qb,kaI rfl hx1r.1 (by show k0≤64;(try simp only[nc] at *);omega) (by rw[e,hb64];(try simp only[nc] at *);omega),e]
            have es1u:vb .shl .u64 1 k0=s1:=by
              have hb64:(2:Int)^(IntKind.u64).bits=18446744073709551616:=by decide
              rw[qb,kaI rfl (by decide) (by show k0≤64;(try simp only[nc] at *);omega) (by rw[hk0,Int.toNat_natCast,hb64];omega),hk0,Int.toNat_natCast,hs1,Int.one_mul]
            have hs1r:1≤s1∧s1≤2048:=by rw[hs1];constructor<;>omega
            have htp:=fun A B k t=>htip A B L i k t hlt2 hL1 (by rw[hxi];exact hyL)
            have ewq:vw .u8 q=q:=by(try simp only[nc] at *);rw[qw];exact wrap_u8 (by omega) (by omega)
            rw[←hx] at htp hT;rw[←hs1] at htp;rw[←hn1] at htp;have hqi:q=(i:Int):=by((try simp only[nc] at *);omega)
            (try simp only[nc] at htp hqi)
            rw[←hqi] at htp;have hxs:x+s1=x2:=by rw[hx2,hgs1,hx,hs1]
            have hx2r:0≤x∧x2≤2048:=by rw[hx,hx2];constructor<;>((try simp only[nc] at *);omega)
            cbv;rw[ed0,ew0,efr,es1u];refine⟨fun _=>rfl,⟨hk00⟩,⟨hk00⟩,?_⟩
            refine kG (α:=Int×(Nat→Int)×(Nat→Int)) ([15]++[60,61,62,63,64,65,66,67,68,69,70,71]) [] (fun(kk,_,_)=>[(59,.int .u64 kk)]) (fun(_,A,B)=>[(5,.arr 210 2 2048 (fun m=>[.int .u8 (A m),.int .i64 (B m)]))])
              (fun(kk,A,B)=>∃kn:Nat,kk=kn∧kk≤s1∧TIl (x+kk) A B) (fun(kk,_)=>(s1-kk).toNat) hw hm ?_ ?_
            · refine Cv.genAt [59] [] (Cv.fold ([15]++[60,61,62,63,64,65,66,67,68,69,70,71]) 11 [] (by exact Nat.le_refl _) (by exact Nat.le_of_ble_eq_true rfl) (by rfl) (by cbv) ?_)
              intro js;refine⟨(_,_,_),?_,js,rfl⟩
              exact⟨0,rfl,by((try simp only[nc] at *);omega),by rw[Int.add_zero];exact hT⟩
            · rintro⟨kk,A,B⟩ js3 ⟨kn,hkk,hks,hT⟩
              cbv;generalize hz4:vc .lss kk s1=z4;cases z4
              rotate_left
              · rw[qc,ko] at hz4
                obtain⟨tt,htt⟩:∃tt,tt=x+kk:=⟨_,rfl⟩;obtain⟨tn,htn⟩:∃tn:Nat,tn=tt.toNat:=⟨_,rfl⟩;have ett:vb .add .u64 x kk=tt:=by rw[qb,htt];exact wrap_u64 (by((try simp only[nc] at *);omega)) (by((try simp only[nc] at *);omega))
                have htv:vtoN tt=tn:=by rw[qtoN,htn]
                have htR:0≤tt∧tt<(2048:Int):=by((try simp only[nc] at *);omega)
                have ht2:tn<2048:=by((try simp only[nc] at *);omega)
                obtain⟨kk1,hkk1⟩:∃kk1:Int,kk1=((kn+1:Nat):Int):=⟨_,rfl⟩;have ekk:vb .add .u64 kk 1=kk1:=by
                  have e:kk+1=kk1:=by((try simp only[nc] at *);omega)
                  rw[qb,←e];exact wrap_u64 (by((try simp only[nc] at *);omega)) (by((try simp only[nc] at *);omega))
                have hT2:=htp A B kn tn (by((try simp only[nc] at *);omega)) (by((try simp only[nc] at *);omega)) (by(try simp only[nc] at *);rw[←hkk];exact hT)
                (try simp only[nc] at hT2)
                rw[←hkk1] at hT2;have hmu4:∀_:Unit,(s1-kk1).toNat<(s1-kk).toNat:=fun _=>by((try simp only[nc] at *);omega)
                have hkk2:kk1≤s1:=by((try simp only[nc] at *);omega)
                cbv;rw[ett,ewq,htv,kmU,kmV,ekk];refine⟨⟨htR⟩,⟨ht2⟩,⟨ht2⟩,?_⟩
                refine Cv.fold ([15]++[60,61,62,63,64,65,66,67,68,69,70,71]) 11 [] (by exact Nat.le_refl _) (by exact Nat.le_of_ble_eq_true rfl) (by rfl) (by cbv) ?_
                intro js;refine⟨(_,_,_),?_,js,rfl⟩
                exact⟨⟨kn+1,hkk1,hkk2,hT2⟩,hmu4 ()⟩
              · rw[qc,km] at hz4
                obtain rfl:kk=s1:=by((try simp only[nc] at *);omega)
                rw[hxs,hx2] at hT;cbv;intro js1;cbv;rw[hnf1];cbv;rw[ek0,ew0,esl,ex2,eq1];refine⟨⟨hk00⟩,?_⟩
                refine Cv.fold ([6,7]++[17,18,19,20,21,22,23,24,25,26,27,28,29,30,31,32,33,34,35,36,37,38,39,40,41,42,43,44,45,46]) 10 [] (by exact Nat.le_refl _) (by exact Nat.le_of_ble_eq_true rfl) (by rfl) (by cbv) ?_
                intro js;refine⟨(_,_,_,_),?_,js,rfl⟩
                exact⟨⟨i+1,hq1,hlt2,hx2,hT⟩,hmu2 ()⟩
    · rw [qc, kgd] at hz1
      have hL:L=M+2:=by((try simp only[nc] at *);omega)
      subst hL;rw[hgf] at hT;have hMp:(2:Int)^M≤2^11:=qV hM11;have htd:=htid _ _ _ hT;clear hgs0 hgss hgsn hgsr hgd hgf hge htip hti0 htid hT;have hb64:(2:Int)^(IntKind.u64).bits=18446744073709551616:=by decide
      cbv;intro js1;cbv;refine WX.cv (Cv.nilT 16 5 .u8 (by rfl) (by cbv;exact⟨fun _=>rfl,trivial⟩) (Cv.here ?_))
      cbv;refine kG (α:=Int×Int×Int×Nat×Nat×List Int) ([19]++[72,73,74,75,76,77,78,79,80,81,82,83,84,85,86,87,88,89,90,91,92,93,94,95,96,97,98,99,100,101,102,103,104,105,106,107,108,109,110,111]) [10] (fun(x,h,_,c,n1,_)=>[(16,.slice 10 .z 1 n1 c),(17,.int .u64 x),(18,.int .i64 h)])
        (fun(_,_,a,c,_,L)=>[(4,.one 143 [.slice 3 .z 1 lb cb,.int .i64 a]),(10,.buf 5 .u8 L c)])
        (fun(x,h,a,c,n1,L)=>∃j hN:Nat,h=hN∧hN≤M∧(j:Int)≤N∧a=POS j-h∧0≤POS j∧x=RD (POS j) hN∧L=OUT j∧n1=j∧n1≤c) (fun(_,_,_,_,n1,_)=>N.toNat-n1) hw hm ?_ ?_
      · refine Cv.genAt [17,18] [] (Cv.fold ([19]++[72,73,74,75,76,77,78,79,80,81,82,83,84,85,86,87,88,89,90,91,92,93,94,95,96,97,98,99,100,101,102,103,104,105,106,107,108,109,110,111]) 11 [10] (by exact Nat.le_refl _) (by exact Nat.le_of_ble_eq_true rfl) (by rfl) (by cbv) ?_)
        intro js;refine⟨(_,_,_,_,_,_),?_,js,rfl⟩
        exact⟨0,0,rfl,by omega,by(try simp only[nc] at *);omega,by rw[hpos0];omega,by rw[hpos0];omega,(hr0 _).symm,ho0.symm,rfl,Nat.le_refl _⟩
      · rintro⟨x,h,a,c,n1,L⟩ js ⟨j,hN2,hh,hhM,hjN,ha,hp,hx,hL,hn1,hnc⟩
        subst hn1;obtain⟨jI,hjI⟩:∃jI:Int,jI=(n1:Int):=⟨_,rfl⟩;have ej:vofN n1=jI:=by rw[qofN,hjI]
        cbv;rw[ej];generalize hz2:vc .lss jI N=z2;cases z2
        · rw[qc,km] at hz2
          have ez:vc .lss jI N=false:=by rw[qc,km];exact hz2
          have hnN:N.toNat=n1:=by((try simp only[nc] at *);omega)
          have hlf:=hleft cb a;obtain⟨p1,hp1'⟩:∃p1,p1=POS n1:=⟨_,rfl⟩;have hpd0:=hpd 0 n1 (by omega);rw[hpos0] at hpd0;have ep1:vb .add .i64 a h=p1:=by
            have e:a+h=p1:=by((try simp only[nc] at *);omega)
            rw[qb,ku (by((try simp only[nc] at *);omega)) (by((try simp only[nc] at *);omega)),e]
          have hLn:L.length=n1:=by rw[hL];exact hol n1
          rw[hnN];cbv;rw[ej,ez];cbv;refine ka (ρ:=[(4,.z),(3,.z)]) hlf ⟨by rfl,by rfl,by rfl,by cbv;exact⟨fun _=>rfl,kb _,trivial⟩⟩ ?_
          rintro v H R js3 ⟨rfl,rfl,rfl⟩;cbv;rw[ep1];refine⟨fun _=>rfl,?_⟩
          generalize hz3:vc .neq p1 0=z3;cases z3
          rotate_left
          · rw[qc,kz,hp1'] at hz3
            cbv;exact⟨L,c,rfl,.inl ⟨rfl,hz3⟩⟩
          · rw[qc,kQ,Decidable.not_not,hp1'] at hz3
            cbv;subst hLn;exact⟨L,c,rfl,.inr ⟨rfl,hL,hz3,Nat.le_trans (Nat.le_of_eq (by rw[hL])) hnc⟩⟩
        · rw[qc,ko] at hz2
          obtain⟨dN,hdN⟩:∃dN,dN=M-hN2:=⟨_,rfl⟩;obtain⟨dI,hdI⟩:∃dI:Int,dI=(dN:Int):=⟨_,rfl⟩;have ed:vb .sub .i64 mI h=dI:=by(try simp only[nc] at *);rw[qb,kJ (by omega) (by omega)];omega
          have ewd:vw .u64 dI=dI:=by(try simp only[nc] at *);rw[qw];exact wrap_u64 (by omega) (by omega)
          have hcl1:=hcl dI (by((try simp only[nc] at *);omega)) (by((try simp only[nc] at *);omega));have hcl2:CL dI=dN:=by((try simp only[nc] at *);omega)
          have hd0:0≤dI:=by((try simp only[nc] at *);omega)
          have hpd0:=hpd 0 n1 (by omega);rw[hpos0] at hpd0;have hbt:=hbits cb a dI (by((try simp only[nc] at *);omega));obtain⟨a2,ha2⟩:∃a2,a2=a-dN:=⟨_,rfl⟩;have hfl1:FL a2=a2:=hfl a2 (by((try simp only[nc] at *);omega));obtain⟨y,hy⟩:∃y,y=RD a dN:=⟨_,rfl⟩;rw[hcl2] at hbt;simp only[nc] at hbt ha2;rw[←ha2,hfl1,←hy] at hbt;have hMs:M=hN2+dN:=by((try simp only[nc] at *);omega)
          have hra1:=hra (POS n1) hN2 dN;rw[←hMs,←hx] at hra1;have haP:POS n1-(hN2:Int)=a:=by((try simp only[nc] at *);omega)
          simp only[nc] at hra1;rw[haP,←hy] at hra1;obtain⟨X,hX⟩:∃X,X=RD (POS n1) M:=⟨_,rfl⟩;rw[←hX] at hra1;have hXr:=hrb (POS n1) M;rw[←hX] at hXr;have hyr:=hrb a dN;rw[←hy] at hyr;have hxr:=hrb (POS n1) hN2;rw[←hx] at hxr;have hpd1:(0:Int)<2^dN:=p2 dN;obtain⟨X0,hX0⟩:∃X0,X0=x*2^dN:=⟨_,rfl⟩;have hX00:0≤X0:=by rw[hX0];exact Int.mul_nonneg hxr.1 (Int.le_of_lt hpd1)
          have eX0:vb .shl .u64 x dI=X0:=by
            have e:x*2^dI.toNat=X0:=by rw[hdI,Int.toNat_natCast,hX0]
            rw[qb,kaI rfl hxr.1 (by show dI≤64;((try simp only[nc] at *);omega)) (by rw[e,hb64];omega),e]
          have eX:vb .or .u64 X0 y=X:=by
            rw[qb,kgq rfl,hX0,kdE rfl dN hyr.1 hyr.2 hxr.1 (by rw[hb64];omega)];omega
          cbv;rw[ed,ewd,eX0];refine⟨⟨hd0⟩,?_⟩
          refine ka (ρ:=[(4,.z),(3,.z)]) hbt ⟨by rfl,by rfl,by rfl,by cbv;exact⟨fun _=>rfl,kb _,trivial⟩⟩ ?_
          rintro v H R js2 ⟨rfl,rfl,rfl⟩;cbv;obtain⟨Xn,hXn⟩:∃Xn:Nat,Xn=X.toNat:=⟨_,rfl⟩;have hXv:vtoN X=Xn:=by rw[qtoN,hXn]
          have hX2:X<2048:=by omega
          have hXR:0≤X∧X<(2048:Int):=⟨hXr.1,hX2⟩;have hXn2:Xn<2048:=by omega
          have hXc:(Xn:Int)=X:=by omega
          simp only[nc] at htd hps hsymd hXc;obtain⟨hA1,hB1⟩:=htd Xn (by rw[hXc];exact hXr.2);obtain⟨hp1,hn1a,hn1b,_,_⟩:=hps n1;have hsd:=hsymd n1;rw[←hX] at hsd;have hsl:=hdl n1;rw[hXc,←hsd] at hA1 hB1;obtain⟨cI,hcI⟩:∃cI:Int,cI=(SYM n1:Int):=⟨_,rfl⟩;obtain⟨nI,hnI⟩:∃nI:Int,nI=NA (SYM n1):=⟨_,rfl⟩;rw[←hcI] at hA1;rw[←hnI] at hB1 hp1 hn1a hn1b;obtain⟨nN,hnN⟩:∃nN:Nat,nN=nI.toNat:=⟨_,rfl⟩;obtain⟨h2,hh2⟩:∃h2:Nat,h2=M-nN:=⟨_,rfl⟩;obtain⟨h3,hh3⟩:∃h3:Int,h3=(h2:Int):=⟨_,rfl⟩;have eh3:vb .sub .i64 mI nI=h3:=by(try simp only[nc] at *);rw[qb,kJ (by omega) (by omega)];omega
          have ewh:vw .u64 h3=h3:=by(try simp only[nc] at *);rw[qw];exact wrap_u64 (by omega) (by omega)
          have hh30:0≤h3:=by rw[hh3];omega
          have hh2p:(0:Int)<2^h2:=p2 h2;have hh2q:(2:Int)^h2≤2^11:=qV (by omega);obtain⟨q2,hq2⟩:∃q2:Int,q2=2^h2:=⟨_,rfl⟩;have eq2:vb .shl .u64 1 h3=q2:=by
            have e:1*2^h3.toNat=q2:=by rw[hh3,Int.toNat_natCast,hq2,Int.one_mul]
            rw[qb,kaI rfl (by decide) (by show h3≤64;(try simp only[nc] at *);omega) (by rw[e,hb64];omega),e]
          obtain⟨q3,hq3⟩:∃q3:Int,q3=q2-1:=⟨_,rfl⟩;have eq3:vb .sub .u64 q2 1=q3:=by rw[qb,hq3];exact wrap_u64 (by omega) (by omega)
          obtain⟨x3,hx3⟩:∃x3,x3=RD (POS (n1+1)) h2:=⟨_,rfl⟩;have ex3:vb .and .u64 X q3=x3:=by
            have e1:=hrm (POS n1) nN h2;rw[show nN+h2=M by((try simp only[nc] at *);omega),←hX] at e1;have e2:POS n1-(nN:Int)=POS (n1+1):=by((try simp only[nc] at *);omega)
            simp only[nc] at e1;rw[e2,←hx3] at e1;rw[qb,hq3,hq2,jf rfl h2 (by show h2≤64;omega) hXr.1 (by rw[hb64];omega)];exact e1
          obtain⟨p1,hp1'⟩:∃p1,p1=POS (n1+1):=⟨_,rfl⟩;have ep1:vb .add .i64 a2 h3=p1:=by
            have e:a2+h3=p1:=by((try simp only[nc] at *);omega)
            rw[qb,ku (by((try simp only[nc] at *);omega)) (by((try simp only[nc] at *);omega)),e]
          have hlf:=hleft cb a2;have hpdN:=hpd (n1+1) N.toNat (by((try simp only[nc] at *);omega));rw[←hp1'] at hpdN;rw[eX];refine⟨fun _=>rfl,⟨hXR⟩,?_⟩
          rw[hXv,hB1,eh3,ewh,eq2,eq3,ex3];refine⟨⟨hXn2⟩,⟨hXn2⟩,fun _=>rfl,⟨hh30⟩,?_⟩
          refine ka (ρ:=[(4,.z),(3,.z)]) hlf ⟨by rfl,by rfl,by rfl,by cbv;exact⟨fun _=>rfl,kb _,trivial⟩⟩ ?_
          rintro v H R js3 ⟨rfl,rfl,rfl⟩;cbv;rw[ep1];refine⟨fun _=>rfl,?_⟩
          generalize hz3:vc .lss p1 0=z3;cases z3
          rotate_left
          · rw[qc,ko] at hz3
            have hne:POS N.toNat≠0:=by((try simp only[nc] at *);omega)
            have ez:vc .lss jI N=true:=by rw[qc,ko];exact hz2
            cbv;rw[ej,ez];cbv;exact⟨L,c,rfl,.inl ⟨rfl,hne⟩⟩
          · rw[qc,km] at hz3
            have hLn:L.length=n1:=by rw[hL];exact hol n1
            have hadd1:vaddN n1 1=n1+1:=by rw[qaddN]
            have hadd01:vaddN 0 1=1:=by rw[qaddN]
            have hln1:vln [cI]=1:=by rw[qln];rfl
            have hlnL:vln L=n1:=by rw[qln];exact hLn
            have hont:vonto L n1 (vsub [cI] 0 1)=OUT (n1+1):=by
              have e1:vsub [cI] 0 1=[cI]:=by rw[qsub];rfl
              have e2:L.take n1=L:=by rw[←hLn,List.take_length]
              rw[e1,qonto,hos n1,hcI,←hL];simp only[e2]
            obtain⟨L2,hL2⟩:∃L2,L2=OUT (n1+1):=⟨_,rfl⟩;rw[←hL2] at hont;obtain⟨n2,hn2'⟩:∃n2,n2=n1+1:=⟨_,rfl⟩;rw[←hn2'] at hadd1;have hmu:∀_:Unit,N.toNat-n2<N.toNat-n1:=fun _=>by((try simp only[nc] at *);omega)
            have hjn:((n2:Nat):Int)≤N:=by((try simp only[nc] at *);omega)
            have ha3:a2=POS n2-h3:=by rw[hn2'];((try simp only[nc] at *);omega)
            have hpn2:0≤POS n2:=by rw[hn2',←hp1'];((try simp only[nc] at *);omega)
            rw[←hn2'] at hx3 hL2;have hh2M:h2≤M:=by omega
            have hn2b:n2*1≤140737488355328:=by((try simp only[nc] at *);omega)
            cbv;rw[hA1];refine⟨fun _=>rfl,⟨by rw[hadd01,hln1];exact Nat.le_refl _⟩,⟨by rw[hlnL];exact Nat.le_refl _⟩,⟨Nat.le_refl _⟩,⟨by rw[hadd1];exact hn2b⟩,fun _=>rfl,?_⟩
            intro c1 js4 hle;have hle':n2≤c1:=by have:=hle.out;simp only at this;rw[hadd1] at this;exact this
            cbv;rw[hont,hadd1];refine Cv.fold ([19]++[72,73,74,75,76,77,78,79,80,81,82,83,84,85,86,87,88,89,90,91,92,93,94,95,96,97,98,99,100,101,102,103,104,105,106,107,108,109,110,111]) 11 [10] (by exact Nat.le_refl _) (by exact Nat.le_of_ble_eq_true rfl) (by rfl) (by cbv) ?_
            intro js;refine⟨(_,_,_,_,_,_),?_,js,rfl⟩
            exact⟨⟨n2,h2,hh3,hh2M,hjn,ha3,hpn2,hx3,hL2,rfl,hle'⟩,hmu ()⟩
theorem kiI (l:List Int) (B:List Int) (cap cap2:Nat) (N:Int) (hl:∀c∈l,kF c) (hlen:l.length≤140737488355328) (hW:∀M,¬Wt l M) :
    Con Try.prog 89 [.slice 0 .z 1 l.length cap,.slice 1 .z 1 B.length cap2,.int .i64 N] [.ro .u8 l,.ro .u8 B] (fun v H R=>v=.tup [.val (.slice none 0 0),.int .i64 50]∧H=[.ro .u8 l,.ro .u8 B]∧R=[]):=by
  have hsz:=kbZ l cap 0 hl hlen (.inr ⟨hW,rfl⟩);refine kf (kw 2 (by simp) (kg (kc kj kop ?_)))
  intro _ vc _ _ _ _ _ _ _ _ _ _ _ _ _ _ _ _ _ _ _ _ _ qc _ _ _ _ _ _ _ _ _ _ _ _ _ _ _ _ _ _ _;have hm:=kj;generalize Try.prog=P at *;generalize hn:l.length=n at *;generalize hlb:B.length=lb at *;have d1:vc .eql 0 0=true:=by rw[qc,kt]
  cbv;refine ka (ρ:=[(0,.z)]) hsz ⟨by rfl,by rfl,by rfl,by cbv;exact⟨⟨⟨by omega,fun i _=>by rw[Nat.zero_add]⟩⟩,trivial⟩⟩ ?_
  rintro v H R js ⟨rfl,rfl,rfl⟩;cbv;rw[d1];cbv
theorem kjC (l:List Int) (B:List Int) (cap cap2 M:Nat) (N:Int) (hl:∀c∈l,kF c) (hW:Wt l M) (hN:N<0∨131072<N) :
    Con Try.prog 89 [.slice 0 .z 1 l.length cap,.slice 1 .z 1 B.length cap2,.int .i64 N] [.ro .u8 l,.ro .u8 B] (fun v H R=>v=.tup [.val (.slice none 0 0),.int .i64 2]∧H=[.ro .u8 l,.ro .u8 B]∧R=[]):=by
  have hsz:=kbZ l cap M hl (by have:=hW.2.1;omega) (.inl ⟨M,hW,rfl⟩);refine kf (kw 2 (by simp) (kg (kc kj kop ?_)))
  intro _ vc _ _ _ _ _ _ _ _ _ _ _ _ _ _ _ _ _ _ _ _ _ qc _ _ _ _ _ _ _ _ _ _ _ _ _ _ _ _ _ _ _;have hm:=kj;generalize Try.prog=P at *;have hM1:=hW.pos;have hn256:=hW.2.1;obtain⟨mI,hmI⟩:∃mI:Int,mI=M:=⟨_,rfl⟩;rw[←hmI] at hsz;generalize hn:l.length=n at *;generalize hlb:B.length=lb at *;have d1:vc .eql mI 0=false:=by rw[qc,kh];omega
  cbv;refine ka (ρ:=[(0,.z)]) hsz ⟨by rfl,by rfl,by rfl,by cbv;exact⟨⟨⟨by omega,fun i _=>by rw[Nat.zero_add]⟩⟩,trivial⟩⟩ ?_
  rintro v H R js ⟨rfl,rfl,rfl⟩;cbv;rw[d1];cbv;rcases hN with hN|hN
  · have d2:vc .lss N 0=true:=by rw[qc,ko];exact hN
    rw[d2];cbv
  · have d2:vc .lss N 0=false:=by rw[qc,km];omega
    have d3:vc .gtr N 131072=true:=by rw[qc,gtr_true];exact hN
    rw[d2];cbv;rw[d3];cbv
theorem kjD (l:List Int) (b:List Int) (cap cap2 M:Nat) (N:Int) (hl:∀c∈l,kF c) (hW:Wt l M) (hN:0≤N∧N≤131072) (hlast:b.getLastD 0=0) (hbl:b.length≤2^48) :
    Con Try.prog 89 [.slice 0 .z 1 l.length cap,.slice 1 .z 1 b.length cap2,.int .i64 N] [.ro .u8 l,.ro .u8 b] (fun v H R=>v=.tup [.val (.slice none 0 0),.int .i64 11]∧H=[.ro .u8 l,.ro .u8 b]∧R=[]):=by
  have hsz:=kbZ l cap M hl (by have:=hW.2.1;omega) (.inl ⟨M,hW,rfl⟩);have hnew:=kg7 b cap2 hlast hbl;refine kf (kw 2 (by simp) (kg (kc kj kop ?_)))
  intro _ vc _ _ _ _ _ _ _ _ _ _ _ _ _ _ _ _ _ _ _ _ _ qc _ _ _ _ _ _ _ _ _ _ _ _ _ _ _ _ _ _ _;have hm:=kj;generalize Try.prog=P at *;have hM1:=hW.pos;have hn256:=hW.2.1;obtain⟨mI,hmI⟩:∃mI:Int,mI=M:=⟨_,rfl⟩;rw[←hmI] at hsz;generalize hn:l.length=n at *;generalize hlb:b.length=lb at *;have d1:vc .eql mI 0=false:=by rw[qc,kh];omega
  have d2:vc .lss N 0=false:=by rw[qc,km];omega
  have d3:vc .gtr N 131072=false:=by rw[qc,gtr_false];omega
  cbv;refine ka (ρ:=[(0,.z)]) hsz ⟨by rfl,by rfl,by rfl,by cbv;exact⟨⟨⟨by omega,fun i _=>by rw[Nat.zero_add]⟩⟩,trivial⟩⟩ ?_
  rintro v H R js ⟨rfl,rfl,rfl⟩;cbv;rw[d1];cbv;rw[d2];cbv;rw[d3];cbv;refine ka (ρ:=[(1,.z)]) hnew ⟨by rfl,by rfl,by rfl,by cbv;exact⟨⟨⟨by omega,fun i _=>by rw[Nat.zero_add]⟩⟩,trivial⟩⟩ ?_
  rintro v H R js ⟨rfl,rfl,rfl⟩;cbv
theorem kjE (l b:List Int) (cap cap2:Nat) (M:Nat) (N:Int) (hl:∀c∈l,kF c) (hb:∀c∈b,isByte c) (hW:Wt l M) (hN:0≤N∧N≤131072) (hbl:b.length≤140737488355328) (hlast:b.getLastD 0≠0) (p0:Int)
    (hp0:p0=8*(b.length-1)+(len8 (b.getLastD 0)-1)) (hp1:0≤p0∧p0≤8*b.length) :
    Con Try.prog 89 [.slice 0 .z 1 l.length cap,.slice 1 .z 1 b.length cap2,.int .i64 N] [.ro .u8 l,.ro .u8 b]
      (fun v H R=>R=[]∧∃L c',H=[.ro .u8 l,.ro .u8 b,.buf 5 .u8 L c'] ∧
        ((v=.tup [.val (.slice none 0 0),.int .i64 11]∧pos l M b p0 N.toNat≠0) ∨
         (v=.tup [.slice 2 .z 1 L.length c',.int .i64 0]∧L=ket l M b p0 N.toNat∧pos l M b p0 N.toNat=0∧L.length≤c'))):=by
  refine kih [0,1,10] rfl rfl (Con.mono (klL l b cap cap2 M N hl hb hW hN hbl hlast p0 hp0 hp1) ?_)
  rintro v H R ⟨rfl,L,c',rfl,⟨rfl,h⟩|⟨rfl,h1,h2,h3⟩⟩
  · exact⟨.tup [.val (.slice none 0 0),.int .i64 11],[.ro .u8 l,.ro .u8 b,.buf 5 .u8 L c'],rfl,rfl,⟨rfl,rfl,rfl,trivial⟩,rfl,L,c',rfl,.inl ⟨rfl,h⟩⟩
  · exact⟨.tup [.slice 2 .z 1 L.length c',.int .i64 0],[.ro .u8 l,.ro .u8 b,.buf 5 .u8 L c'],rfl,rfl,⟨rfl,rfl,rfl,trivial⟩,rfl,L,c',rfl,.inr ⟨rfl,h1,h2,h3⟩⟩
theorem jJ {l:List Int} (h:∀c∈l,kF c):∀c∈l,isByte c:=fun c hc=>by have:=h c hc;unfold kF at this;exact⟨this.1,by omega⟩
theorem kox (l b:List Int) (cap cap2 M:Nat) (N:Int) (hl:∀c∈l,kF c) (hb:∀c∈b,isByte c) (hW:Wt l M) (hN:N≤131072) (hbl:b.length≤140737488355328) :
    Con Try.prog 89 [.slice 0 .z 1 l.length cap,.slice 1 .z 1 b.length cap2,.int .i64 N] [.ro .u8 l,.ro .u8 b]
      (fun v H R=>R=[]∧((H=[.ro .u8 l,.ro .u8 b]∧(v=.tup [.val (.slice none 0 0),.int .i64 2]∧N<0∨v=.tup [.val (.slice none 0 0),.int .i64 11]∧0≤N∧b.getLastD 0=0))∨∃L c',H=[.ro .u8 l,.ro .u8 b,.buf 5 .u8 L c'] ∧
        ((v=.tup [.val (.slice none 0 0),.int .i64 11]∧0≤N∧b.getLastD 0≠0∧pos l M b (jd b) N.toNat≠0) ∨
         (v=.tup [.slice 2 .z 1 L.length c',.int .i64 0]∧L=ket l M b (jd b) N.toNat∧0≤N∧b.getLastD 0≠0∧pos l M b (jd b) N.toNat=0∧L.length≤c')))):=by
  by_cases h1:N<0
  · exact(kjC l b cap cap2 M N hl hW (.inl h1)).mono fun v H R ⟨e1,e2,e3⟩=>⟨e3,.inl ⟨e2,.inl ⟨e1,h1⟩⟩⟩
  by_cases h2:b.getLastD 0=0
  · exact(kjD l b cap cap2 M N hl hW ⟨by omega,hN⟩ h2 (by omega)).mono fun v H R ⟨e1,e2,e3⟩=>⟨e3,.inl ⟨e2,.inr ⟨e1,by omega,h2⟩⟩⟩
  obtain⟨P,hP,hPl,_⟩:=kbU b h2 hb;refine(kjE l b cap cap2 M N hl hb hW ⟨by omega,hN⟩ hbl h2 (jd b) rfl (by omega)).mono ?_
  rintro v H R ⟨e1,L,c',e2,h|h⟩
  · exact⟨e1,.inr ⟨L,c',e2,.inl ⟨h.1,by omega,h2,h.2⟩⟩⟩
  · exact⟨e1,.inr ⟨L,c',e2,.inr ⟨h.1,h.2.1,by omega,h2,h.2.2.1,h.2.2.2⟩⟩⟩
theorem Wt.uniq {l:List Int} {M K:Nat} (h:Wt l M) (k:Wt l K):M=K:=by
 have e:(2:Int)^M=2^K:=by rw[←h.2.2.2.2.2.1,←k.2.2.2.2.2.1]
 have e:2^M=2^K:=by exact_mod_cast e
 exact(Nat.pow_right_inj (by decide)).1 e
open Classical in
noncomputable def unR (l b:List Int) (N:Int):Option (List Int):=
 if h:∃M,Wt l M then(if b.getLastD 0≠0∧pos l h.choose b (jd b) N.toNat=0 then some (ket l h.choose b (jd b) N.toNat) else none) else none
theorem kql {l:List Int} {M:Nat} (hW:Wt l M) (b:List Int) (N:Int):unR l b N=if b.getLastD 0≠0∧pos l M b (jd b) N.toNat=0 then some (ket l M b (jd b) N.toNat) else none:=by
 have h:∃M,Wt l M:=⟨M,hW⟩;unfold unR;rw[dif_pos h,Wt.uniq h.choose_spec hW]
theorem kqm {l:List Int} (h:¬∃M,Wt l M) (b:List Int) (N:Int):unR l b N=none:=by
 unfold unR;rw[dif_neg h]
theorem khf {l b L:List Int} {N:Int} (h:unR l b N=some L):L.length=N.toNat:=by
 unfold unR at h;split at h
 ·split at h
  ·rw[Option.some.injEq] at h;rw[←h,kiH]
  ·cases h
 ·cases h
theorem kiJ (l b:List Int) (cap cap2:Nat) (N:Int) (hl:∀c∈l,kF c) (hll:l.length≤140737488355328) (hb:∀c∈b,isByte c) (hN:0≤N∧N≤131072) (hbl:b.length≤140737488355328) :
  Con Try.prog 89 [.slice 0 .z 1 l.length cap,.slice 1 .z 1 b.length cap2,.int .i64 N] [.ro .u8 l,.ro .u8 b]
   (fun v H R=>R=[]∧((∃e:Int,e≠0∧unR l b N=none∧H=[.ro .u8 l,.ro .u8 b]∧v=.tup [.val (.slice none 0 0),.int .i64 e]) ∨
    ∃L c',unR l b N=some L∧H=[.ro .u8 l,.ro .u8 b,.buf 5 .u8 L c']∧v=.tup [.slice 2 .z 1 L.length c',.int .i64 0]∧L.length≤c')):=by
 by_cases hW:∃M,Wt l M
 ·obtain⟨M,hW⟩:=hW;rw[kql hW];refine jh (Con.mono (kox l b cap cap2 M N hl hb hW hN.2 hbl) ?_)
  rintro v H R ⟨rfl,⟨rfl,⟨rfl,h⟩|⟨rfl,h1,h2⟩⟩|⟨L,c',rfl,⟨rfl,h1,h2,h3⟩|⟨rfl,h1,h2,h3,h4,h5⟩⟩⟩
  ·omega
  ·exact⟨[0,1],.tup [.val (.slice none 0 0),.int .i64 11],[.ro .u8 l,.ro .u8 b],rfl,rfl,rfl,rfl,⟨rfl,rfl,trivial⟩,rfl,.inl ⟨11,by decide,if_neg (fun h=>h.1 h2),rfl,rfl⟩⟩
  ·exact⟨[0,1],.tup [.val (.slice none 0 0),.int .i64 11],[.ro .u8 l,.ro .u8 b],rfl,rfl,rfl,rfl,⟨rfl,rfl,trivial⟩,rfl,.inl ⟨11,by decide,if_neg (fun h=>h3 h.2),rfl,rfl⟩⟩
  ·exact⟨[0,1,2],.tup [.slice 2 .z 1 L.length c',.int .i64 0],[.ro .u8 l,.ro .u8 b,.buf 5 .u8 L c'],rfl,rfl,rfl,rfl,⟨rfl,rfl,rfl,trivial⟩,rfl,.inr ⟨L,c',by rw[if_pos ⟨h3,h4⟩,h1],rfl,rfl,h5⟩⟩
 ·rw[kqm hW];refine(kiI l b cap cap2 N hl hll (fun M h=>hW ⟨M,h⟩)).mono ?_
  rintro v H R ⟨rfl,rfl,rfl⟩;exact⟨rfl,.inl ⟨50,by decide,rfl,rfl,rfl⟩⟩
theorem koy (l b:List Int) (cap cap2:Nat) (N:Int) (hl:∀c∈l,kF c) (hll:l.length≤140737488355328) (hb:∀c∈b,isByte c) (hN:0≤N∧N≤131072) (hbl:b.length≤140737488355328) :
  Con Try.prog 89 [.slice 0 .z 1 l.length cap,.slice 1 .z 1 b.length cap2,.int .i64 N] [.ro .u8 l,.ro .u8 b]
   (fun v H R=>R=[]∧((∃e:Int,e≠0∧unR l b N=none∧H=[.ro .u8 l,.ro .u8 b]∧v=.tup [.val (.slice none 0 0),.int .i64 e]) ∨
    ∃L c',unR l b N=some L∧H=[.ro .u8 l,.ro .u8 b,.buf 5 .u8 L c']∧v=.tup [.slice 2 .z 1 L.length c',.int .i64 0])):=
 (kiJ l b cap cap2 N hl hll hb hN hbl).mono fun _ _ _ ⟨h1,h2⟩=>⟨h1,h2.imp id fun⟨L,c',a,b,c,_⟩=>⟨L,c',a,b,c⟩⟩
theorem kgz (b:List Int) (n:Nat):∀m,m≤n→kV (b.take n) m=kV b m
 |0,_=>rfl
 |m+1,h=>by
  rw[kV,kV,kgz b n m (by omega)];congr 2
  rw[List.getD_eq_getElem?_getD,List.getD_eq_getElem?_getD,List.getElem?_take,if_pos (by omega)]
theorem view_take (b:List Int) (n:Nat) (hn:n≤b.length):qp 0 (b.take n) b:=by
 have hlen:(b.take n).length=n:=by rw[List.length_take];omega
 refine⟨?_,fun i hi=>?_⟩
 ·rw[hlen];omega
 ·rw[hlen] at hi;rw[List.getD_eq_getElem?_getD,List.getD_eq_getElem?_getD,List.getElem?_take,if_pos hi,Nat.zero_add]
theorem kem (b:List Int) (n cap:Nat) (hb:∀c∈b,kF c) (hn:n≤b.length) (h8:n≤8) :
  Con Try.prog 57 [.slice 0 .z 1 n cap] [.ro .u8 (b.take n)] (fun v H R=>v=.int .u64 (kV b n)∧H=[.ro .u8 (b.take n)]∧R=[]):=by
 have hlen:(b.take n).length=n:=by rw[List.length_take];omega
 have:=kfC (b.take n) cap (fun c hc=>hb c (List.mem_of_mem_take hc)) (by omega);rw[hlen,kgz b n n (Nat.le_refl _)] at this;exact this
-- CASES
def seg (b:List Int) (o n:Nat):List Int:=(b.drop o).take n
theorem kae {b:List Int} {o n:Nat} (h:o+n≤b.length):(seg b o n).length=n:=by unfold seg;rw[List.length_take,List.length_drop];omega
theorem keB (b:List Int) (o:Nat) {n i:Nat} (h:i<n):(seg b o n).getD i 0=b.getD (o+i) 0:=by
 unfold seg;rw[List.getD_eq_getElem?_getD,List.getD_eq_getElem?_getD,List.getElem?_take,if_pos h,List.getElem?_drop]
theorem kdi {b:List Int} {o n:Nat} {p:Int→Prop} (h:∀c∈b,p c):∀c∈seg b o n,p c:=fun c hc=>h c (List.mem_of_mem_drop (List.mem_of_mem_take hc))
theorem kfE {b:List Int} {o n x:Nat} (h:o+n≤b.length) (hx:x=o∨n=0∧x≤b.length):qp x (seg b o n) b:=by
 refine⟨?_,fun i hi=>?_⟩
 ·rw[kae h];omega
 ·rw[kae h] at hi;rw[keB b o hi];rcases hx with rfl|⟨rfl,_⟩
  ·rfl
  ·omega
def w2 (b:List Int) (i:Nat):Int:=b.getD (2*i) 0+b.getD (2*i+1) 0*256
theorem klM (b:List Int) (i:Nat):kV (seg b (2*i) 2) 2=w2 b i:=by
 have e1:=keB b (2*i) (n:=2) (i:=0) (by decide);have e2:=keB b (2*i) (n:=2) (i:=1) (by decide);simp only[kV,e1,e2,w2];show 0+b.getD (2*i+0) 0*2^(8*0)+b.getD (2*i+1) 0*2^(8*1)=_
 rw[show(2:Int)^(8*0)=1 by decide,show(2:Int)^(8*1)=256 by decide,Nat.add_zero];omega
theorem knk {b:List Int} (hb:∀c∈b,kF c) (i:Nat):0≤w2 b i∧w2 b i<65536:=by
 have h1:=jB hb (2*i);have h2:=jB hb (2*i+1);unfold kF at h1 h2;unfold w2;omega
theorem kjF {b:List Int} {i:Nat} (cap:Nat) (hb:∀c∈b,kF c) (h:2*i+2≤b.length) :
  Con Try.prog 57 [.slice 0 .z 1 2 cap] [.ro .u8 (seg b (2*i) 2)] (fun v H R=>v=.int .u64 (w2 b i)∧H=[.ro .u8 (seg b (2*i) 2)]∧R=[]):=by
 have hlen:=kae h;have:=kfC (seg b (2*i) 2) cap (kdi hb) (by omega);rw[hlen,klM] at this;exact this
noncomputable def ka2 (w b:List Int) (size each:Int):Nat→Nat→List Int→Option (List Int)
 |0,_,L=>some L
 | n+1,q,L=>
  if (b.length:Int)-q<(if 1≤n then w2 b (3-n) else(b.length:Int)-q) then none
  else match unR w (seg b q (if 1≤n then w2 b (3-n) else(b.length:Int)-q).toNat) (if 1≤n then each else size-3*each) with
   |none=>none
   |some l=>ka2 w b size each n (q+(if 1≤n then w2 b (3-n) else(b.length:Int)-q).toNat) (L++l)
noncomputable def qZ (w b:List Int) (size n:Int):Option (List Int):=
 if n=1 then unR w b size else if b.length<6∨size<3*((size+3) / 4) then none else ka2 w b size ((size+3) / 4) 4 6 []
theorem kiK {w b:List Int} {size each k wt:Int} {n q:Nat} {L:List Int} (hk:k=if 1≤n then w2 b (3-n) else(b.length:Int)-q) (hwt:wt=if 1≤n then each else size-3*each) :
  ((b.length:Int)-q<k→ka2 w b size each (n+1) q L=none)∧(¬(b.length:Int)-q<k→unR w (seg b q k.toNat) wt=none→ka2 w b size each (n+1) q L=none) ∧
  (¬(b.length:Int)-q<k→∀l,unR w (seg b q k.toNat) wt=some l→ka2 w b size each (n+1) q L=ka2 w b size each n (q+k.toNat) (L++l)):=by
 rw[ka2,←hk,←hwt];refine⟨fun h=>if_pos h,fun h e=>?_,fun h l e=>?_⟩
 ·rw[if_neg h,e]
 ·rw[if_neg h,e]

theorem klN (w b:List Int) (cap cap2:Nat) (size:Int) (hw8:∀c∈w,kF c) (hwl:w.length≤140737488355328) (hb:∀c∈b,kF c) (hbl:b.length≤1048576) (hs:0≤size∧size≤131072) :
  Con Try.prog 59 [.slice 0 .z 1 w.length cap,.slice 1 .z 1 b.length cap2,.int .i64 size,.int .i64 1] [.ro .u8 w,.ro .u8 b]
   (fun v H R=>R=[]∧((∃e:Int,e≠0∧unR w b size=none∧H=[.ro .u8 w,.ro .u8 b]∧v=.tup [.val (.slice none 0 0),.int .i64 e]) ∨
    ∃L c',unR w b size=some L∧H=[.ro .u8 w,.ro .u8 b,.buf 5 .u8 L c']∧v=.tup [.slice 2 .z 1 L.length c',.int .i64 0]∧L.length≤c')):=by
 have hun:=kiJ w b cap cap2 size hw8 hwl (jJ hb) hs (by omega);refine kf (jh (kg (kc kj kqY ?_)))
 intro _ vc _ _ _ _ _ _ _ _ _ _ _ _ _ _ _ _ _ _ _ _ _ qc _ _ _ _ _ _ _ _ _ _ _ _ _ _ _ _ _ _ _;have hm:=kj;generalize Try.prog=P at *;generalize unR w b size=U at *;generalize hwl':w.length=wl at *;generalize hbl':b.length=bl at *;have e11:vc .eql 1 1=true:=by rw[qc];rfl
 cbv;rw[e11];cbv;refine ka (ρ:=[(0,.z),(1,.z)]) hun ⟨by rfl,by rfl,by rfl,by cbv;exact⟨kb _,kb _,trivial⟩⟩ ?_
 rintro v H R js ⟨rfl,⟨e,he,hU,rfl,rfl⟩|⟨L,c',hU,rfl,rfl,hLc⟩⟩
 ·cbv;exact⟨[0,1],.tup [.val (.slice none 0 0),.int .i64 e],[.ro .u8 w,.ro .u8 b],rfl,rfl,rfl,rfl,⟨rfl,rfl,trivial⟩,rfl,.inl ⟨e,he,hU,rfl,rfl⟩⟩
 ·obtain⟨Ln,hLn⟩:∃Ln,Ln=L.length:=⟨_,rfl⟩;rw[←hLn];cbv;subst hLn;exact⟨[0,1,2],.tup [.slice 2 .z 1 L.length c',.int .i64 0],[.ro .u8 w,.ro .u8 b,.buf 5 .u8 L c'],rfl,rfl,rfl,rfl,⟨rfl,rfl,rfl,trivial⟩,rfl,.inr ⟨L,c',hU,rfl,rfl,hLc⟩⟩
theorem kiL (w b:List Int) (cap cap2:Nat) (size n:Int) (hw8:∀c∈w,kF c) (hwl:w.length≤140737488355328) (hb:∀c∈b,kF c) (hbl:b.length≤1048576) (hcap:b.length≤cap2) (hcm:cap2≤9223372036854775807) (hs:0≤size∧size≤131072) :
  Con Try.prog 59 [.slice 0 .z 1 w.length cap,.slice 1 .z 1 b.length cap2,.int .i64 size,.int .i64 n] [.ro .u8 w,.ro .u8 b]
   (fun v H R=>R=[]∧((∃e:Int,e≠0∧qZ w b size n=none∧H=[.ro .u8 w,.ro .u8 b]∧v=.tup [.val (.slice none 0 0),.int .i64 e]) ∨
    ∃L c',qZ w b size n=some L∧H=[.ro .u8 w,.ro .u8 b,.buf 5 .u8 L c']∧v=.tup [.slice 2 .z 1 L.length c',.int .i64 0]∧L.length≤c')):=by
 by_cases hn1:n=1
 ·subst hn1;rw[show qZ w b size 1=unR w b size by unfold qZ;rw[if_pos rfl]];exact klN w b cap cap2 size hw8 hwl hb hbl hs
 obtain⟨each,heach⟩:∃each,each=(size+3) / 4:=⟨_,rfl⟩;have hRR:qZ w b size n=if b.length<6∨size<3*each then none else ka2 w b size each 4 6 []:=by unfold qZ;rw[if_neg hn1,heach]
 have hun:=fun(q kN:Nat) (N:Int) (c:Nat) (h1:q+kN≤b.length) (h2:0≤N∧N≤131072)=>by
  have:=koy w (seg b q kN) cap c N hw8 hwl (kdi (jJ hb)) h2 (by rw[kae h1];omega);rw[kae h1] at this;exact this
 have hnum:=fun(i c:Nat) (h:2*i+2≤b.length)=>kjF c hb h
 have hr0:∀(q:Nat) (L:List Int),ka2 w b size each 0 q L=some L:=fun _ _=>rfl
 have hround:=fun k wt n q L=>@kiK w b size each k wt n q L
 have hw2:=knk hb;have hseg:=fun o n h=>@kae b o n h
 have hvs:=fun o n x h hx=>@kfE b o n x h hx
 have hlU:=fun(p:List Int) (N:Int) (X:List Int) (h:unR w p N=some X)=>khf h
 rw[hRR];refine kf (jh (kg (kc kj kqY ?_)))
 intro vb vc vw vtoN vofN vaddN vsubN _ _ vcutN vgd _ vln _ vsub vonto _ _ _ _ _ hw qb qc qw qtoN qofN qaddN qsubN _ _ qcutN qgd _ qln _ qsub qonto _ _ _ _ _;have hm:=kj;generalize Try.prog=P at *;clear hRR;generalize ka2 w b size each=RF at *;generalize unR w=UN at *;generalize w2 b=W2 at *;generalize seg b=SG at *;generalize hwl':w.length=wl at *;generalize hbl':b.length=bl at *;have hgd:∀i,vgd b i=b.getD i 0:=fun i=>by rw[qgd]
 have hlnq:∀l,vln l=l.length:=fun l=>by rw[qln]
 have hlnb:vln b=bl:=by simp only[qln,hbl']
 have haddq:∀a b,vaddN a b=a+b:=fun a b=>by rw[qaddN]
 obtain⟨bI,hbI⟩:∃bI:Int,bI=bl:=⟨_,rfl⟩;have ebl:vofN bl=bI:=by rw[qofN,hbI]
 have en1:vc .eql n 1=false:=by rw[qc,kh];exact hn1
 obtain⟨s3,hs3⟩:∃s3,s3=size+3:=⟨_,rfl⟩;have es3:vb .add .i64 size 3=s3:=by rw[qb,ku (by omega) (by omega),hs3]
 have eq4:vb .quo .i64 s3 4=each:=by rw[qb,kcd (by omega) (by omega) (by omega),heach,hs3]
 obtain⟨t3,ht3⟩:∃t3,t3=3*each:=⟨_,rfl⟩;have et3:vb .mul .i64 3 each=t3:=by rw[qb,kcc (by omega) (by omega),ht3]
 rw[←ht3];cbv;rw[en1];cbv;rw[es3,eq4,ebl];generalize hz1:vc .lss bI 6=z1;cases z1
 rotate_left
 ·rw[qc,ko] at hz1;cbv;exact⟨[0,1],.tup [.val (.slice none 0 0),.lit .i64 11],[.ro .u8 w,.ro .u8 b],rfl,rfl,rfl,rfl,⟨rfl,rfl,trivial⟩,rfl,.inl ⟨11,by decide,if_pos (.inl (by((try simp only[nc] at *);omega))),rfl,rfl⟩⟩
 rw[qc,km] at hz1;cbv;rw[et3];generalize hz2:vc .gtr t3 size=z2;cases z2
 rotate_left
 ·rw[qc,gtr_true] at hz2;cbv;exact⟨[0,1],.tup [.val (.slice none 0 0),.lit .i64 11],[.ro .u8 w,.ro .u8 b],rfl,rfl,rfl,rfl,⟨rfl,rfl,trivial⟩,rfl,.inl ⟨11,by decide,if_pos (.inr hz2),rfl,rfl⟩⟩
 rw[qc,gtr_false] at hz2;have hnb:¬(bl<6∨size<t3):=by rintro(h|h)<;>((try simp only[nc] at *);omega)
 rw[if_neg hnb];obtain⟨ws,hws⟩:∃ws,ws=size-t3:=⟨_,rfl⟩;have ews:vb .sub .i64 size t3=ws:=by rw[qb,kJ (by((try simp only[nc] at *);omega)) (by((try simp only[nc] at *);omega)),hws]
 have ht6:vtoN 6=6:=by rw[qtoN];rfl
 obtain⟨o6,ho6⟩:∃o6,o6=vcutN 0 6 cap2:=⟨_,rfl⟩;obtain⟨m6,hm6⟩:∃m6,m6=vsubN bl 6:=⟨_,rfl⟩;obtain⟨c6,hc6'⟩:∃c6,c6=vsubN cap2 6:=⟨_,rfl⟩;have hm6':m6=bl-6:=by rw[hm6,qsubN]
 have hc6'':c6=cap2-6:=by rw[hc6',qsubN]
 have hc6:o6=6∨m6=0∧o6≤bl:=by
  have e:o6=if cap2=6 then 0 else 0+6:=by rw[ho6,qcutN]
  by_cases h:cap2=6
  ·rw[if_pos h] at e;right;constructor<;>((try simp only[nc] at *);omega)
  ·rw[if_neg h] at e;left;((try simp only[nc] at *);omega)
 have hof:∀q:Nat,vofN q=(q:Int):=fun q=>by simp only[qofN]
 cbv;rw[←ho6,←hm6,←hc6'];refine⟨⟨by((try simp only[nc] at *);omega),by((try simp only[nc] at *);omega)⟩,?_⟩
 refine WX.cv (Cv.nilT 11 5 .u8 (by rfl) (by cbv;try exact⟨fun _=>rfl,trivial⟩) (Cv.here ?_))
 cbv;refine kG (α:=Int×Nat×Nat×Nat×Nat×Nat×List Int) ([13,14,15,16,17]++[41,42,43,44,45,46,47,48,49,50,51,52,53,54,55,56,57,58,59,60,61,62,63,64,65,66,67,68,69,70,71,72,73,74,75,76,77,78,79,80,81,82,83,84]) [2] (fun(k,o,m,cp,nL,c,L)=>[(40,.int .i64 k),(12,.slice 1 (.n o) 1 m cp),(11,.slice 2 .z 1 nL c)]) (fun(k,o,m,cp,nL,c,L)=>[(2,.buf 5 .u8 L c)])
  (fun(k,o,m,cp,nL,c,L)=>∃j q:Nat,k+j=4∧q+m=bl∧m≤cp∧(o=q∨m=0∧o≤bl)∧nL=L.length∧nL≤c∧nL+131072*j≤524288∧RF 4 6 []=RF j q L) (fun(k,_,_,_,_,_,_)=>(4-k).toNat) hw hm ?_ ?_
 ·refine Cv.genAt [40] [] (Cv.fold ([13,14,15,16,17]++[41,42,43,44,45,46,47,48,49,50,51,52,53,54,55,56,57,58,59,60,61,62,63,64,65,66,67,68,69,70,71,72,73,74,75,76,77,78,79,80,81,82,83,84]) 3 [2] (by exact Nat.le_refl _) (by exact Nat.le_of_ble_eq_true rfl) (by rfl) (by cbv) ?_)
  intro js;refine⟨(_,_,_,_,_,_,_),?_,js,rfl⟩
  exact⟨4,6,by rfl,by((try simp only[nc] at *);omega),by((try simp only[nc] at *);omega),hc6,rfl,Nat.le_refl _,by decide,rfl⟩
 ·rintro⟨k,o,m,cp,nL,c,L⟩ js ⟨j,q,hkj,hqm,hmc,ho,hnL,hnc,hnb,hRES⟩;obtain⟨mI,hmI⟩:∃mI:Int,mI=m:=⟨_,rfl⟩;have emI:vofN m=mI:=by rw[hof,hmI]
  cbv;generalize hz3:vc .lss k 4=z3;cases z3
  ·rw[qc,km] at hz3;have hj0:j=0:=by((try simp only[nc] at *);omega)
   subst hj0;rw[hr0] at hRES;cbv;subst hnL;exact⟨[0,1,2],.tup [.slice 2 .z 1 L.length c,.lit .i64 0],[.ro .u8 w,.ro .u8 b,.buf 5 .u8 L c],rfl,rfl,rfl,rfl,⟨rfl,rfl,rfl,trivial⟩,rfl,.inr ⟨L,c,hRES,rfl,rfl,hnc⟩⟩
  ·rw [qc,ko] at hz3
   obtain⟨n1,rfl⟩:∃n1,j=n1+1:=⟨j-1,by((try simp only[nc] at *);omega)⟩;cbv;rw[emI,et3,ews];generalize hz4:vc .lss k 3=z4;cases z4
   ·rw[qc,km] at hz4;obtain rfl:n1=0:=by((try simp only[nc] at *);omega)
    obtain⟨r1,r2,r3⟩:=hround mI ws 0 q L (by rw[if_neg (by decide)];((try simp only[nc] at *);omega)) (by rw[if_neg (by decide),←ht3,hws]);have hWT:0≤ws∧ws≤131072:=by((try simp only[nc] at *);omega)
    cbv;rw[emI];generalize hz5:vc .gtr mI mI=z5;cases z5
    rotate_left
    ·rw[qc,gtr_true] at hz5;cbv;exact⟨[0,1],.tup [.val (.slice none 0 0),.lit .i64 11],[.ro .u8 w,.ro .u8 b],rfl,rfl,rfl,rfl,⟨rfl,rfl,trivial⟩,rfl,.inl ⟨11,by decide,by rw[hRES];exact r1 (by((try simp only[nc] at *);omega)),rfl,rfl⟩⟩
    rw[qc,gtr_false] at hz5;obtain⟨kN,hkN⟩:∃kN:Nat,mI=kN:=⟨(mI).toNat,by((try simp only[nc] at *);omega)⟩;have htk:vtoN mI=kN:=by rw[qtoN,hkN];exact Int.toNat_natCast kN
    have htk':(mI).toNat=kN:=by rw[hkN];exact Int.toNat_natCast kN
    have hnk:¬(bl:Int)-q<mI:=by((try simp only[nc] at *);omega)
    have r2:=r2 hnk;have r3:=r3 hnk;rw[htk'] at r2 r3;have hu:=hun q kN ws kN (by((try simp only[nc] at *);omega)) hWT;have hvu:=hvs q kN o (by((try simp only[nc] at *);omega)) (by rcases ho with h|⟨h,h'⟩;exact .inl h;exact .inr ⟨by((try simp only[nc] at *);omega),h'⟩)
    have hlu:=fun X=>hlU (SG q kN) ws X
    generalize SG q kN=sgk at *;generalize hUU:UN sgk ws=U at *;cbv;rw[htk];refine⟨⟨by((try simp only[nc] at *);omega),by((try simp only[nc] at *);omega)⟩,⟨by((try simp only[nc] at *);omega),by((try simp only[nc] at *);omega)⟩,?_⟩
    refine ka (ρ:=[(0,.z),(1,.n o)]) hu ⟨by rfl,by rfl,by rfl,by cbv;exact⟨kb _,hvu,trivial⟩⟩ ?_
    rintro v H R js3 ⟨rfl,⟨e,he,hU,rfl,rfl⟩|⟨l,c',hU,rfl,rfl⟩⟩
    ·have ez:vc .neq e 0=true:=by rw[qc,kz];exact he
     cbv;rw[ez];cbv;exact⟨[0,1],.tup [.val (.slice none 0 0),.int .i64 e],[.ro .u8 w,.ro .u8 b],rfl,rfl,rfl,rfl,⟨rfl,rfl,trivial⟩,rfl,.inl ⟨e,he,by rw[hRES];exact r2 hU,rfl,rfl⟩⟩
    ·have r4:=r3 l hU;have hll:=hlu l hU;obtain⟨ln,hln⟩:∃ln,ln=l.length:=⟨_,rfl⟩;rw[←hln] at hll ⊢
     have ez:vc .neq 0 0=false:=by rw[qc];rfl
     have hont:vonto L nL (vsub l 0 ln)=L++l:=by
      rw[qonto,qsub];simp only[List.drop_zero];rw[hnL,hln,List.take_length,List.take_length]
     obtain⟨L2,hL2⟩:∃L2,L2=L++l:=⟨_,rfl⟩;have hL2l:L2.length=nL+ln:=by rw[hL2,List.length_append,hnL,hln]
     rw[←hL2] at r4 hont;have ha2:=haddq nL ln;have ha0:∀x,vaddN 0 x=x:=fun x=>by rw[haddq,Nat.zero_add]
     obtain⟨n2,hn2⟩:∃n2,n2=nL+ln:=⟨_,rfl⟩;rw[←hn2] at ha2 hL2l;obtain⟨o2,ho2⟩:∃o2,o2=vcutN o kN cp:=⟨_,rfl⟩;obtain⟨m2,hm2⟩:∃m2,m2=vsubN m kN:=⟨_,rfl⟩;obtain⟨p2,hp2⟩:∃p2,p2=vsubN cp kN:=⟨_,rfl⟩;have hm2':m2=m-kN:=by rw[hm2,qsubN]
     have hp2':p2=cp-kN:=by rw[hp2,qsubN]
     have ho2':o2=q+kN∨m2=0∧o2≤bl:=by
      have e:o2=if cp=kN then o else o+kN:=by rw[ho2,qcutN]
      rw[e];split<;>rcases ho with h|⟨h,h'⟩<;>((try simp only[nc] at *);omega)
     obtain⟨k1,hk1⟩:∃k1:Int,k1=k+1:=⟨_,rfl⟩;have ek1:vb .add .i64 k 1=k1:=by rw[qb,ku (by((try simp only[nc] at *);omega)) (by((try simp only[nc] at *);omega)),hk1]
     have hmu:∀_:Unit,(4-k1).toNat<(4-k).toNat:=fun _=>by((try simp only[nc] at *);omega)
     have hn2b:n2*1≤140737488355328:=by((try simp only[nc] at *);omega)
     have hlb1:l.length=ln:=hln.symm;cbv;rw[ez];cbv;rw[htk,←ho2,←hm2,←hp2];refine⟨⟨by((try simp only[nc] at *);omega),by((try simp only[nc] at *);omega)⟩,⟨by rw[ha0,hlnq];((try simp only[nc] at *);omega)⟩,⟨by rw[hlnq];((try simp only[nc] at *);omega)⟩,⟨by((try simp only[nc] at *);omega)⟩,⟨by rw[ha2];exact hn2b⟩,?_⟩
     intro c2 js4 hle;have hle':n2≤c2:=by have:=hle.out;simp only at this;rw[ha2] at this;exact this
     cbv;rw[hont,ha2,ek1];refine Cv.fold ([13,14,15,16,17]++[41,42,43,44,45,46,47,48,49,50,51,52,53,54,55,56,57,58,59,60,61,62,63,64,65,66,67,68,69,70,71,72,73,74,75,76,77,78,79,80,81,82,83,84]) 3 [2] (by exact Nat.le_refl _) (by exact Nat.le_of_ble_eq_true rfl) (by rfl) (by cbv) ?_
     intro js;refine⟨(_,_,_,_,_,_,_),?_,js,rfl⟩
     exact⟨⟨0,q+kN,by((try simp only[nc] at *);omega),by((try simp only[nc] at *);omega),by((try simp only[nc] at *);omega),ho2',hL2l.symm,hle',by((try simp only[nc] at *);omega),by rw[hRES,r4]⟩,hmu ()⟩
   ·rw[qc,ko] at hz4;obtain⟨i,hi⟩:∃i,i=3-n1:=⟨_,rfl⟩;have hki:k=i:=by((try simp only[nc] at *);omega)
    obtain⟨kI,hkI⟩:∃kI,kI=W2 i:=⟨_,rfl⟩;obtain⟨r1,r2,r3⟩:=hround kI each n1 q L (by rw[if_pos (by((try simp only[nc] at *);omega)),hkI,hi]) (by rw[if_pos (by((try simp only[nc] at *);omega))]);have hWT:0≤each∧each≤131072:=by((try simp only[nc] at *);omega)
    have hwi:=hw2 i;have hni:=hnum i (vsubN cap2 (2*i)) (by((try simp only[nc] at *);omega));have hvi:=hvs (2*i) 2 (2*i) (by((try simp only[nc] at *);omega)) (.inl rfl);rw[←hkI] at hwi hni;obtain⟨i2,hi2⟩:∃i2:Int,i2=2*k:=⟨_,rfl⟩;obtain⟨i22,hi22⟩:∃i22:Int,i22=i2+2:=⟨_,rfl⟩;have ei2:vb .mul .i64 2 k=i2:=by rw[qb,kcc (by((try simp only[nc] at *);omega)) (by((try simp only[nc] at *);omega)),hi2]
    have ei22:vb .add .i64 i2 2=i22:=by rw[qb,ku (by((try simp only[nc] at *);omega)) (by((try simp only[nc] at *);omega)),hi22]
    obtain⟨iN,hiN⟩:∃iN,iN=2*i:=⟨_,rfl⟩;obtain⟨iM,hiM⟩:∃iM,iM=iN+2:=⟨_,rfl⟩;rw[←hiN] at hni hvi;have hti2:vtoN i2=iN:=by rw[qtoN];((try simp only[nc] at *);omega)
    have hti22:vtoN i22=iM:=by rw[qtoN];((try simp only[nc] at *);omega)
    have hcuti:vcutN 0 iN cap2=iN:=by rw[qcutN];simp only;rw[if_neg (by((try simp only[nc] at *);omega))];((try simp only[nc] at *);omega)
    have hsbi:vsubN iM iN=2:=by rw[qsubN];simp only;omega
    have ewk:vw .i64 kI=kI:=by rw[qw];exact wrap_i64 (by((try simp only[nc] at *);omega)) (by((try simp only[nc] at *);omega))
    obtain⟨ci,hci⟩:∃ci,ci=vsubN cap2 iN:=⟨_,rfl⟩;rw[←hci] at hni;generalize SG iN 2=sg2 at *;cbv;rw[ei2,ei22,hti2,hti22,hcuti,hsbi,←hci];refine⟨⟨by((try simp only[nc] at *);omega),by((try simp only[nc] at *);omega)⟩,⟨by((try simp only[nc] at *);omega),by((try simp only[nc] at *);omega)⟩,?_⟩
    refine ka (ρ:=[(1,.n iN)]) hni ⟨by rfl,by rfl,by rfl,by cbv;exact⟨hvi,trivial⟩⟩ ?_
    rintro v H R js2 ⟨rfl,rfl,rfl⟩;cbv;rw[ewk];cbv;rw[emI];generalize hz5:vc .gtr kI mI=z5;cases z5
    rotate_left
    ·rw[qc,gtr_true] at hz5;cbv;exact⟨[0,1],.tup [.val (.slice none 0 0),.lit .i64 11],[.ro .u8 w,.ro .u8 b],rfl,rfl,rfl,rfl,⟨rfl,rfl,trivial⟩,rfl,.inl ⟨11,by decide,by rw[hRES];exact r1 (by((try simp only[nc] at *);omega)),rfl,rfl⟩⟩
    rw[qc,gtr_false] at hz5;obtain⟨kN,hkN⟩:∃kN:Nat,kI=kN:=⟨(kI).toNat,by((try simp only[nc] at *);omega)⟩;have htk:vtoN kI=kN:=by rw[qtoN,hkN];exact Int.toNat_natCast kN
    have htk':(kI).toNat=kN:=by rw[hkN];exact Int.toNat_natCast kN
    have hnk:¬(bl:Int)-q<kI:=by((try simp only[nc] at *);omega)
    have r2:=r2 hnk;have r3:=r3 hnk;rw[htk'] at r2 r3;have hu:=hun q kN each kN (by((try simp only[nc] at *);omega)) hWT;have hvu:=hvs q kN o (by((try simp only[nc] at *);omega)) (by rcases ho with h|⟨h,h'⟩;exact .inl h;exact .inr ⟨by((try simp only[nc] at *);omega),h'⟩)
    have hlu:=fun X=>hlU (SG q kN) each X
    generalize SG q kN=sgk at *;generalize hUU:UN sgk each=U at *;cbv;rw[htk];refine⟨⟨by((try simp only[nc] at *);omega),by((try simp only[nc] at *);omega)⟩,⟨by((try simp only[nc] at *);omega),by((try simp only[nc] at *);omega)⟩,?_⟩
    refine ka (ρ:=[(0,.z),(1,.n o)]) hu ⟨by rfl,by rfl,by rfl,by cbv;exact⟨kb _,hvu,trivial⟩⟩ ?_
    rintro v H R js3 ⟨rfl,⟨e,he,hU,rfl,rfl⟩|⟨l,c',hU,rfl,rfl⟩⟩
    ·have ez:vc .neq e 0=true:=by rw[qc,kz];exact he
     cbv;rw[ez];cbv;exact⟨[0,1],.tup [.val (.slice none 0 0),.int .i64 e],[.ro .u8 w,.ro .u8 b],rfl,rfl,rfl,rfl,⟨rfl,rfl,trivial⟩,rfl,.inl ⟨e,he,by rw[hRES];exact r2 hU,rfl,rfl⟩⟩
    ·have r4:=r3 l hU;have hll:=hlu l hU;obtain⟨ln,hln⟩:∃ln,ln=l.length:=⟨_,rfl⟩;rw[←hln] at hll ⊢
     have ez:vc .neq 0 0=false:=by rw[qc];rfl
     have hont:vonto L nL (vsub l 0 ln)=L++l:=by
      rw[qonto,qsub];simp only[List.drop_zero];rw[hnL,hln,List.take_length,List.take_length]
     obtain⟨L2,hL2⟩:∃L2,L2=L++l:=⟨_,rfl⟩;have hL2l:L2.length=nL+ln:=by rw[hL2,List.length_append,hnL,hln]
     rw[←hL2] at r4 hont;have ha2:=haddq nL ln;have ha0:∀x,vaddN 0 x=x:=fun x=>by rw[haddq,Nat.zero_add]
     obtain⟨n2,hn2⟩:∃n2,n2=nL+ln:=⟨_,rfl⟩;rw[←hn2] at ha2 hL2l;obtain⟨o2,ho2⟩:∃o2,o2=vcutN o kN cp:=⟨_,rfl⟩;obtain⟨m2,hm2⟩:∃m2,m2=vsubN m kN:=⟨_,rfl⟩;obtain⟨p2,hp2⟩:∃p2,p2=vsubN cp kN:=⟨_,rfl⟩;have hm2':m2=m-kN:=by rw[hm2,qsubN]
     have hp2':p2=cp-kN:=by rw[hp2,qsubN]
     have ho2':o2=q+kN∨m2=0∧o2≤bl:=by
      have e:o2=if cp=kN then o else o+kN:=by rw[ho2,qcutN]
      rw[e];split<;>rcases ho with h|⟨h,h'⟩<;>((try simp only[nc] at *);omega)
     obtain⟨k1,hk1⟩:∃k1:Int,k1=k+1:=⟨_,rfl⟩;have ek1:vb .add .i64 k 1=k1:=by rw[qb,ku (by((try simp only[nc] at *);omega)) (by((try simp only[nc] at *);omega)),hk1]
     have hmu:∀_:Unit,(4-k1).toNat<(4-k).toNat:=fun _=>by((try simp only[nc] at *);omega)
     have hn2b:n2*1≤140737488355328:=by((try simp only[nc] at *);omega)
     have hlb1:l.length=ln:=hln.symm;cbv;rw[ez];cbv;rw[htk,←ho2,←hm2,←hp2];refine⟨⟨by((try simp only[nc] at *);omega),by((try simp only[nc] at *);omega)⟩,⟨by rw[ha0,hlnq];((try simp only[nc] at *);omega)⟩,⟨by rw[hlnq];((try simp only[nc] at *);omega)⟩,⟨by((try simp only[nc] at *);omega)⟩,⟨by rw[ha2];exact hn2b⟩,?_⟩
     intro c2 js4 hle;have hle':n2≤c2:=by have:=hle.out;simp only at this;rw[ha2] at this;exact this
     cbv;rw[hont,ha2,ek1];refine Cv.fold ([13,14,15,16,17]++[41,42,43,44,45,46,47,48,49,50,51,52,53,54,55,56,57,58,59,60,61,62,63,64,65,66,67,68,69,70,71,72,73,74,75,76,77,78,79,80,81,82,83,84]) 3 [2] (by exact Nat.le_refl _) (by exact Nat.le_of_ble_eq_true rfl) (by rfl) (by cbv) ?_
     intro js;refine⟨(_,_,_,_,_,_,_),?_,js,rfl⟩
     exact⟨⟨n1,q+kN,by((try simp only[nc] at *);omega),by((try simp only[nc] at *);omega),by((try simp only[nc] at *);omega),ho2',hL2l.symm,hle',by((try simp only[nc] at *);omega),by rw[hRES,r4]⟩,hmu ()⟩

theorem knl {x:Int} (h:65536≤x):kW x=16+kW (x / 65536):=by
 have e:x / 65536=x / 256 / 256:=by omega
 rw[e,kfu (x:=x) (by omega),kfu (x:=x / 256) (by omega)];omega
set_option maxRecDepth 100000 in
theorem klO (x:Int) (hx:65536≤x∧x<16777216):Con Try.prog 106 [.int .u64 x] [] (fun v H R=>v=.int .i64 (kW x)∧H=[]∧R=[]):=by
 refine kf (kc kj kpP ?_)
 intro vb vc vw vtoN _ _ _ _ _ _ vgd _ vln _ _ _ _ _ vbyteV _ _ _ qb qc qw qtoN _ _ _ _ _ _ qgd _ qln _ _ _ _ _ qbyteV _ _;have hm:=kj;generalize Try.prog=P at *;have hl:lenTab.length=256:=by rfl
 have key:∀y:Int,0≤y→y<256→vw .i64 (vbyteV (vgd lenTab (vtoN y)))=kW y:=by
  intro y h0 h1;obtain⟨n,rfl⟩:∃n:Nat,y=n:=⟨y.toNat,by omega⟩;rw[qw,qbyteV,qgd,qtoN];exact kej ⟨n,by omega⟩
 have hb:=@knl x hx.1;have hbr:=@km8 (x / 65536) (by omega) (by omega);have e1:kqd=(.seq (.ops [⟨(some 2),.mv (.k (.lit .i64 0)),none,[]⟩])
  (.seq (.seq (.ops [⟨(some 3),.mv (.t 0),none,[]⟩,
   ⟨(some 4),.cmp .geq (.t 3) (.k (.lit .u64 4294967296)),none,[]⟩])
  (.cond (.t 4) (.seq (.ops [⟨(some 5),.mv (.t 0),none,[]⟩,
   ⟨(some 6),.bin .shr .u64 (.t 5) (.k (.lit .u64 32)),none,[]⟩,
   ⟨(some 0),.mv (.t 6),none,[]⟩])
  (.ops [⟨(some 2),.mv (.k (.lit .i64 32)),none,[]⟩])) (.skip)))
  (.seq (.seq (.ops [⟨(some 7),.mv (.t 0),none,[]⟩,
   ⟨(some 8),.cmp .geq (.t 7) (.k (.lit .u64 65536)),none,[]⟩])
  (.cond (.t 8) (.seq (.ops [⟨(some 9),.mv (.t 0),none,[]⟩,
   ⟨(some 10),.bin .shr .u64 (.t 9) (.k (.lit .u64 16)),none,[]⟩,
   ⟨(some 0),.mv (.t 10),none,[]⟩])
  (.ops [⟨(some 11),.mv (.t 2),none,[]⟩,
   ⟨(some 12),.bin .add .i64 (.t 11) (.k (.lit .i64 16)),none,[]⟩,
   ⟨(some 2),.mv (.t 12),none,[]⟩])) (.skip)))
  (.seq (.seq (.ops [⟨(some 13),.mv (.t 0),none,[]⟩,
   ⟨(some 14),.cmp .geq (.t 13) (.k (.lit .u64 256)),none,[]⟩])
  (.cond (.t 14) (.seq (.ops [⟨(some 15),.mv (.t 0),none,[]⟩,
   ⟨(some 16),.bin .shr .u64 (.t 15) (.k (.lit .u64 8)),none,[]⟩,
   ⟨(some 0),.mv (.t 16),none,[]⟩])
  (.ops [⟨(some 17),.mv (.t 2),none,[]⟩,
   ⟨(some 18),.bin .add .i64 (.t 17) (.k (.lit .i64 8)),none,[]⟩,
   ⟨(some 2),.mv (.t 18),none,[]⟩])) (.skip)))
  (.seq (.ops [⟨(some 19),.mv (.t 2),none,[]⟩,
   ⟨(some 20),.mv (.t 0),none,[]⟩,
   ⟨(some 21),.conv .u8 (.t 20),none,[]⟩,
   ⟨(some 22),.idxS (.k (.str lenTab)) (.t 21),none,[]⟩,
   ⟨(some 23),.conv .i64 (.t 22),none,[]⟩,
   ⟨(some 24),.bin .add .i64 (.t 19) (.t 23),none,[]⟩,
   ⟨(some 2),.mv (.t 24),none,[]⟩])
  (.ret)))))):=rfl
 rw[e1];have hll:vln lenTab=256:=by rw[qln];exact hl
 generalize lenTab=T at *;have d1:vc .geq x 4294967296=false:=by rw[qc,kZ];omega
 have d2:vc .geq x 65536=true:=by rw[qc,jm];omega
 have d3:vc .geq (x / 65536) 256=false:=by rw[qc,kZ];omega
 have s1:vb .shr .u64 x 16=x / 65536:=by rw[qb];show x.fdiv (2^16)=_;rw[Int.fdiv_eq_ediv_of_nonneg _ (by omega)];rfl
 have w1:vw .u8 (x / 65536)=x / 65536:=by rw[qw];exact wrap_u8 (by omega) (by omega)
 have hk:=key (x / 65536) (by omega) (by omega);generalize hbl:kW x=bl at *;generalize hbl2:kW (x / 65536)=bl2 at *;generalize hx6:x / 65536=x6 at *;cbv;rw[d1];cbv;rw[d2];cbv;rw[s1,d3];cbv;rw[w1,hk];refine⟨⟨?_⟩,?_,trivial⟩
 ·rw[hll];omega
 ·congr 1
  rw[qb,ku (by omega) (by omega)];omega
theorem knm (x:Int) (hx:0≤x∧x<16777216):Con Try.prog 78 [.int .u64 x] [] (fun v H R=>v=.int .i64 (kW x)∧H=[]∧R=[]):=by
 by_cases h:x<65536
 ·exact kex x ⟨hx.1,h⟩
 have hc:=klO x ⟨by omega,hx.2⟩;refine kf (kc kj kq2 ?_)
 intro _ _ _ _ _ _ _ _ _ _ _ _ _ _ _ _ _ _ _ _ _ _ _ _ _ _ _ _ _ _ _ _ _ _ _ _ _ _ _ _ _ _ _;have hm:=kj;generalize Try.prog=P at *;generalize kW x=bl at *;cbv;refine ka (ρ:=[]) hc ⟨by rfl,by rfl,by rfl,by cbv⟩ ?_
 rintro v H R js ⟨rfl,rfl,rfl⟩;cbv
def smA (t:List Int):Int:=sm t t.length
def OkE (t l:List Int):Prop:=t.length≤255∧(∀i,i<t.length→t.getD i 0≤11)∧0<smA t∧(∃k:Nat,2^(kW (smA t)).toNat-smA t=2^k∧l=t++[(k:Int)+1])∧∃M,Wt l M
theorem OkE.uniq {t l l':List Int} (h:OkE t l) (h':OkE t l'):l=l':=by
 obtain⟨_,_,_,⟨k,h1,h2⟩,_⟩:=h;obtain⟨_,_,_,⟨k',h3,h4⟩,_⟩:=h';have:k=k':=kkl (h1.symm.trans h3);rw[h2,h4,this]
theorem klP {x:Int} (h:0<x):x<2^(kW x).toNat∧2^(kW x).toNat≤2*x:=by
 obtain⟨k,h1,h2,h3⟩:=qE h;have e:(kW x).toNat=k+1:=by omega
 rw[e];refine⟨h3,?_⟩
 rw[Int.pow_succ];omega
theorem knn {l l':List Int} {n:Nat} (h:∀i,i<n→l.getD i 0=l'.getD i 0):sm l n=sm l' n:=by
 induction n with
 |zero=>rfl
 |succ n ih=>simp only[sm];rw[ih (fun i hi=>h i (by omega)),h n (by omega)]
theorem getD_take {l:List Int} {n i:Nat} (h:i<n):(l.take n).getD i 0=l.getD i 0:=by
 rw[List.getD_eq_getElem?_getD,List.getD_eq_getElem?_getD,List.getElem?_take,if_pos h]
theorem kiM (l0:List Int) (n cap cc:Nat) (hl:∀c∈l0,kF c) (hn:n≤l0.length) (hcc:cap≤cc) (hlen:n≤1000) :
  Con Try.prog 49 [.slice 0 .z 1 n cap] [.buf 5 .u8 l0 cc] (fun v H R=>R=[0]∧((∃l c',OkE (l0.take n) l∧H=[.buf 5 .u8 l c']∧v=.tup [.slice 0 .z 1 l.length c',.bool true]) ∨
   ((∀l,¬OkE (l0.take n) l)∧∃l' c',H=[.buf 5 .u8 l' c']∧(v=.tup [.val (.slice none 0 0),.bool false]∨∃n',v=.tup [.slice 0 .z 1 n' c',.bool false])))):=by
 have hlen1:=knm;have htl:(l0.take n).length=n:=by rw[List.length_take];omega
 have hsz:∀(w:Int) (c':Nat) (m:Int),kF w→Msz (l0.take n++[w]) m→Con Try.prog 45 [.slice 0 .z 1 (n+1) c'] [.ro .u8 (l0.take n++[w])] (fun v H R=>v=.int .i64 m∧H=[.ro .u8 (l0.take n++[w])]∧R=[]):=by
  intro w c' m hw hm;have:=kbZ (l0.take n++[w]) c' m (fun c hc=>(List.mem_append.1 hc).elim (fun h=>hl c (List.mem_of_mem_take h)) (fun h=>by rw[List.mem_singleton.1 h];exact hw)) (by rw[List.length_append,htl];simp;omega) hm;rw[List.length_append,htl] at this;exact this
 have hex:=fun w=>Msz.ex (l0.take n++[w])
 have hpos:∀w m,Msz (l0.take n++[w]) m→(0<m↔∃M,Wt (l0.take n++[w]) M):=by
  intro w m hm;rcases hm with⟨M,hW,rfl⟩|⟨h,rfl⟩
  ·exact⟨fun _=>⟨M,hW⟩,fun _=>by have:=hW.pos;omega⟩
  ·exact⟨fun h'=>by omega,fun⟨M,h'⟩=>(h M h').elim⟩
 have hsmA:smA (l0.take n)=sm l0 n:=by unfold smA;rw[htl];exact knn (fun i hi=>getD_take hi)
 have hok:∀l,OkE (l0.take n) l→n≤255∧(∀i,i<n→l0.getD i 0≤11)∧0<sm l0 n∧(∃k:Nat,2^(kW (sm l0 n)).toNat-sm l0 n=2^k∧l=l0.take n++[(k:Int)+1])∧∃M,Wt l M:=by
  intro l h;unfold OkE at h;rw[htl,hsmA] at h;exact⟨h.1,fun i hi=>by have:=h.2.1 i hi;rw[getD_take hi] at this;exact this,h.2.2⟩
 have hko:∀(k M:Nat),n≤255→(∀i,i<n→l0.getD i 0≤11)→0<sm l0 n→2^(kW (sm l0 n)).toNat-sm l0 n=2^k→Wt (l0.take n++[(k:Int)+1]) M→OkE (l0.take n) (l0.take n++[(k:Int)+1]):=by
  intro k M h1 h2 h3 h4 h5;unfold OkE;rw[htl,hsmA];exact⟨h1,fun i hi=>by rw[getD_take hi];exact h2 i hi,h3,⟨k,h4,rfl⟩,M,h5⟩
 have hover:=@klP;have htl1:∀w:Int,(l0.take n++[w]).length=n+1:=fun w=>by rw[List.length_append,htl];rfl
 refine kf (kw 1 (by simp) (ju [0] (kc kj kqX ?_)))
 intro vb vc vw vtoN vofN vaddN _ _ _ _ vgd _ vln _ vsub vonto _ _ _ _ _ hw qb qc qw qtoN qofN qaddN _ _ _ _ qgd _ qln _ qsub qonto _ _ _ _ _;have hm:=kj;generalize Try.prog=P at *;have hge:=jB hl;have hsr:=fun i=>@kfB l0 i
 have hs0:sm l0 0=0:=rfl;have hss:∀i,sm l0 (i+1)=sm l0 i+pw (l0.getD i 0):=fun _=>rfl
 have hpr:=@kbY;have hpwd:∀w:Int,0≤w→w≤11→vb .shr .u64 (vb .shl .u64 1 w) 1=pw w:=fun w h0 h1=>by rw[qb];exact kkm h0 h1
 have hand:∀s:Int,1≤s→s<2^64→(vb .and .u64 s (s-1)=0↔∃k:Nat,s=2^k):=fun s h0 h1=>by rw[qb];exact kkk h0 h1
 have hbp:=kdf;have hbr:∀x:Int,0≤x→x<2^20→0≤kW x∧kW x≤20:=fun x h0 h1=>kbn (n:=20) h0 h1
 generalize sm l0=SM at *;generalize pw=PW at *;generalize kW=BL at *;generalize hTK:l0.take n=TK at *;generalize OkE TK=OK at *;generalize hl0:l0.length=nl at *;have hto:∀i:Nat,vtoN (i:Int)=i:=fun i=>by simp only[qtoN,Int.toNat_natCast]
 have hadd0:∀i,vaddN 0 i=i:=fun i=>by simp only[qaddN,Nat.zero_add]
 have hvln:vln l0=nl:=by simp only[qln,hl0]
 have hvgd:∀i,vgd l0 i=l0.getD i 0:=fun i=>by simp only[qgd]
 obtain⟨nI,hnI⟩:∃nI:Int,nI=n:=⟨_,rfl⟩;have en:vofN n=nI:=by rw[hnI,qofN]
 cbv;simp only[nc] at *;rw[en];refine kG (α:=Int×Int) ([6]++[12,13,14,15,16,17,18,19,20,21,22]) [0] (fun(k,s)=>[(11,.int .i64 k),(4,.int .u64 s)]) (fun _=>[])
  (fun(k,s)=>∃i:Nat,k=i∧i≤n∧s=SM i∧∀j,j<i→l0.getD j 0≤11) (fun(k,_)=>n-k.toNat) hw hm ?_ ?_
 ·refine Cv.genAt [11,4] [] (Cv.fold ([6]++[12,13,14,15,16,17,18,19,20,21,22]) 1 [0] (by exact Nat.le_refl _) (by exact Nat.le_of_ble_eq_true rfl) (by rfl) (by cbv) ?_)
  intro js;refine⟨(_,_),?_,js,rfl⟩
  exact⟨0,rfl,by((try simp only[nc] at *);omega),hs0.symm,fun j hj=>by((try simp only[nc] at *);omega)⟩
 ·rintro⟨k,s⟩ js ⟨i,hk,hi,hs,hj⟩;have hsi:=hsr i hj;cbv;generalize hz4:vc .lss k nI=z4;cases z4
  rotate_left
  ·rw[qc,ko] at hz4;have hlt:i<n:=by((try simp only[nc] at *);omega)
   have hti:vtoN k=i:=by rw[hk];exact hto i
   have hinR:0≤k∧k<(n:Int):=by((try simp only[nc] at *);omega)
   obtain⟨k1,hk1⟩:∃k1:Int,k1=((i+1:Nat):Int):=⟨_,rfl⟩;have ek:vb .add .i64 k 1=k1:=by rw[qb,ku (by((try simp only[nc] at *);omega)) (by((try simp only[nc] at *);omega))];((try simp only[nc] at *);omega)
   have hmu:∀_:Unit,n-k1.toNat<n-k.toNat:=fun _=>by((try simp only[nc] at *);omega)
   have hx:=hge i;have hss1:=hss i;have hlt2:i<nl:=by((try simp only[nc] at *);omega)
   cbv;rw[hti,hadd0,hvgd,hvln];refine⟨⟨hinR⟩,⟨hlt2⟩,⟨hlt2⟩,?_⟩
   generalize hxi:l0.getD i 0=x at *;generalize hz5:vc .gtr x 11=z5;cases z5
   rotate_left
   ·rw[qc,gtr_true] at hz5;cbv;exact .inr ⟨fun l h=>by have:=(hok l h).2.1 i hlt;rw[hxi] at this;((try simp only[nc] at *);omega),l0,cc,rfl,.inl rfl⟩
   rw[qc,gtr_false] at hz5;have hpx:=hpr (w:=x) (by((try simp only[nc] at *);omega));have hpw:=hpwd x (by((try simp only[nc] at *);omega)) (by((try simp only[nc] at *);omega));obtain⟨s1,hs1⟩:∃s1,s1=SM (i+1):=⟨_,rfl⟩;have es:vb .add .u64 s (PW x)=s1:=by
    rw[qb,hs1,hss1,←hs];exact wrap_u64 (by((try simp only[nc] at *);omega)) (by((try simp only[nc] at *);omega))
   have hjj:∀j,j<i+1→l0.getD j 0≤11:=fun j hj2=>by
    by_cases e:j=i
    ·subst e;((try simp only[nc] at *);omega)
    ·exact hj j (by((try simp only[nc] at *);omega))
   cbv;rw[hpw,es,ek];refine⟨⟨by((try simp only[nc] at *);omega)⟩,?_⟩
   refine Cv.fold ([6]++[12,13,14,15,16,17,18,19,20,21,22]) 1 [0] (by exact Nat.le_refl _) (by exact Nat.le_of_ble_eq_true rfl) (by rfl) (by cbv) ?_
   intro js;refine⟨(_,_),?_,js,rfl⟩
   exact⟨⟨i+1,hk1,hlt,hs1,hjj⟩,hmu ()⟩
  ·rw[qc,km] at hz4;obtain rfl:i=n:=by((try simp only[nc] at *);omega)
   cbv;generalize hz5:vc .eql s 0=z5;cases z5
   rotate_left
   ·rw[qc,kt] at hz5;cbv;exact .inr ⟨fun l h=>by have:=(hok l h).2.2.1;((try simp only[nc] at *);omega),l0,cc,rfl,.inl rfl⟩
   rw[qc,kh] at hz5;cbv;rw[en];generalize hz6:vc .gtr nI 255=z6;cases z6
   rotate_left
   ·rw[qc,gtr_true] at hz6;cbv;exact .inr ⟨fun l h=>by have:=(hok l h).1;((try simp only[nc] at *);omega),l0,cc,rfl,.inl rfl⟩
   rw[qc,gtr_false] at hz6;have hs18:0<s∧s≤262144:=by((try simp only[nc] at *);omega)
   obtain⟨ho1,ho2⟩:=hover hs18.1;have hc1:=hlen1 s ⟨by((try simp only[nc] at *);omega),by((try simp only[nc] at *);omega)⟩;obtain⟨K,hK⟩:∃K:Nat,K=(BL s).toNat:=⟨_,rfl⟩;rw[←hK] at ho1 ho2;obtain⟨bI,hbI⟩:∃bI:Int,bI=BL s:=⟨_,rfl⟩;rw[←hbI] at hc1 hK;have hbI2:=hbr s (by((try simp only[nc] at *);omega)) (by((try simp only[nc] at *);omega));rw[←hbI] at hbI2;have hKb:(K:Int)=bI:=by((try simp only[nc] at *);omega)
   have hpK20:(2:Int)^K≤2^20:=qV (by((try simp only[nc] at *);omega));obtain⟨pK,hpK⟩:∃pK:Int,pK=2^K:=⟨_,rfl⟩;rw[←hpK] at ho1 ho2 hpK20;have ewb:vw .u64 bI=bI:=by rw[qw];exact wrap_u64 (by((try simp only[nc] at *);omega)) (by((try simp only[nc] at *);omega))
   have hbits:(2:Int)^(IntKind.u64).bits=18446744073709551616:=by decide
   have esl:vb .shl .u64 1 bI=pK:=by
    have e:1*2^bI.toNat=pK:=by rw[←hK,hpK,Int.one_mul]
    rw[qb,kaI rfl (by decide) (by show bI≤64;((try simp only[nc] at *);omega)) (by rw[e,hbits];((try simp only[nc] at *);omega)),e]
   obtain⟨re,hre⟩:∃re:Int,re=pK-s:=⟨_,rfl⟩;have esb:vb .sub .u64 pK s=re:=by rw[qb,hre];exact wrap_u64 (by((try simp only[nc] at *);omega)) (by((try simp only[nc] at *);omega))
   obtain⟨re1,hre1⟩:∃re1:Int,re1=re-1:=⟨_,rfl⟩;have esb1:vb .sub .u64 re 1=re1:=by rw[qb,hre1];exact wrap_u64 (by((try simp only[nc] at *);omega)) (by((try simp only[nc] at *);omega))
   have hands:=hand re (by((try simp only[nc] at *);omega)) (by((try simp only[nc] at *);omega));rw[←hre1] at hands;obtain⟨an,han⟩:∃an,an=vb .and .u64 re re1:=⟨_,rfl⟩;rw[←han] at hands;cbv;refine ka (ρ:=[]) hc1 ⟨by rfl,by rfl,by rfl,by cbv⟩ ?_
   rintro v H R js2 ⟨rfl,rfl,rfl⟩;cbv;rw[ewb,esl,esb];refine⟨⟨by((try simp only[nc] at *);omega)⟩,?_⟩
   rw[esb1,←han];generalize hz7:vc .neq an 0=z7;cases z7
   rotate_left
   ·rw[qc,kz] at hz7;cbv;exact .inr ⟨fun l h=>by
     obtain⟨_,_,_,⟨k,h4,_⟩,_⟩:=hok l h;refine hz7 (hands.2 ⟨k,?_⟩)
     rw[hre,hpK,hK,hbI,hs];exact h4,l0,cc,rfl,.inl rfl⟩
   rw[qc,kQ] at hz7;obtain⟨kk,hkk⟩:=hands.1 (Classical.not_not.1 hz7);have hkb:BL re=kk+1:=by rw[hkk];exact hbp kk
   have hkr:=hbr re (by((try simp only[nc] at *);omega)) (by((try simp only[nc] at *);omega));have hc2:=hlen1 re ⟨by((try simp only[nc] at *);omega),by((try simp only[nc] at *);omega)⟩;obtain⟨w,hw1⟩:∃w:Int,w=(kk:Int)+1:=⟨_,rfl⟩;rw[hkb,←hw1] at hc2;have hw8:kF w:=by unfold kF;((try simp only[nc] at *);omega)
   have eww:vw .u8 w=w:=by rw[qw];exact wrap_u8 (by have:=hw8.1;((try simp only[nc] at *);omega)) (by have:=hw8.2;((try simp only[nc] at *);omega))
   obtain⟨m,hm0⟩:=hex w;have hszw:=fun c'=>hsz w c' m hw8 hm0
   have hposw:=hpos w m hm0;have hkow:=fun M h=>hko kk M (by((try simp only[nc] at *);omega)) hj (by((try simp only[nc] at *);omega)) (by rw[←hs,←hbI,←hK,←hpK,←hre];exact hkk) h
   rw[←hw1] at hkow;have hoku:∀l,OK l→l=TK++[w]∧0<m:=fun l h=>by
    obtain⟨_,_,_,⟨k',h4,h5⟩,M,h6⟩:=hok l h;have:k'=kk:=by
     have h7:(2:Int)^k'=2^kk:=by rw[←h4,←hkk,hre,hpK,hK,hbI,hs]
     exact kkl h7
    subst this;rw[←hw1] at h5;subst h5;exact⟨rfl,hposw.2 ⟨M,h6⟩⟩
   obtain⟨L2,hL2⟩:∃L2,L2=TK++[w]:=⟨_,rfl⟩;have hont:vonto l0 i (vsub [w] 0 1)=L2:=by rw[hL2,←hTK,qsub,qonto];rfl
   have hL2n:L2.length=i+1:=by rw[hL2];exact htl1 w
   rw[←hL2] at hszw hposw hkow hoku;have hadd1:vaddN i 1=i+1:=by rw[qaddN]
   obtain⟨i1,hi1⟩:∃i1,i1=i+1:=⟨_,rfl⟩;rw[←hi1] at hszw hadd1 hL2n;have hln1:vln [w]=1:=by rw[qln];rfl
   have hi1b:i1*1≤140737488355328:=by omega
   cbv;refine ka (ρ:=[]) hc2 ⟨by rfl,by rfl,by rfl,by cbv⟩ ?_
   rintro v H R js3 ⟨rfl,rfl,rfl⟩;cbv;rw[eww];refine⟨⟨by rw[hadd0,hln1];exact Nat.le_refl _⟩,⟨by rw[hvln];exact hn⟩,⟨hcc⟩,⟨by rw[hadd1];exact hi1b⟩,?_⟩
   intro c1 js4 hle;cbv;rw[hont,hadd1];refine ka (ρ:=[(0,.z)]) (hszw c1) ⟨by rfl,by rfl,by rfl,by cbv;exact⟨kb _,trivial⟩⟩ ?_
   rintro v H R js5 ⟨rfl,rfl,rfl⟩;cbv;generalize hz8:vc .gtr m 0=z8;cases z8
   ·rw[qc,gtr_false] at hz8;exact .inr ⟨fun l h=>hz8 (hoku l h).2,L2,c1,rfl,.inr ⟨i1,rfl⟩⟩
   ·rw[qc,gtr_true] at hz8;obtain⟨M,hM⟩:=hposw.1 hz8;subst hL2n;exact .inl ⟨L2,c1,hkow M hM,rfl,rfl⟩
theorem OkE.bound {t l:List Int} (h:OkE t l):smA t≤2048∧∃k:Nat,k≤10∧2^(kW (smA t)).toNat-smA t=2^k∧l=t++[(k:Int)+1]:=by
 obtain⟨h1,h2,h3,⟨k,h4,rfl⟩,M,hW⟩:=h;have hl:(t++[(k:Int)+1]).length=t.length+1:=by simp
 have hg:(t++[(k:Int)+1]).getD t.length 0=(k:Int)+1:=by simp[List.getD_eq_getElem?_getD]
 have h5:=hW.2.2.2.1 t.length (by omega);rw[hg] at h5;have h6:=hW.2.2.2.2.2.1;rw[hl] at h6;simp only[sm] at h6;have h7:sm (t++[(k:Int)+1]) t.length=smA t:=knn (fun i hi=>by rw[List.getD_eq_getElem?_getD,List.getElem?_append_left hi,←List.getD_eq_getElem?_getD]);have h8:=kbY (w:=(t++[(k:Int)+1]).getD t.length 0) (by rw[hg];omega);have h9:(2:Int)^M≤2^11:=qV hW.2.2.2.2.2.2;exact⟨by omega,k,by omega,h4,rfl⟩
def byS (A B C:Nat→Int) (b:List Int):Nat→Int→Int→Int→List Int→Option (List Int)
 |0,_,_,_,_=>none
 |f+1,a,o,p,l=>if p-B a.toNat<0 then some (l++[A a.toNat]++[A o.toNat]) else byS A B C b f o (C a.toNat+rd b p (B a.toNat).toNat) (p-B a.toNat) (l++[A a.toNat])
def bst (F:Nat) (b:List Int):Option (List Int):=
 match j4 b 6 11 with
 | (cs,log,used,e)=>if e≠0 then none else if ¬jL cs log then none else if (b.drop used.toNat).getLastD 0=0 then none
  else if jd (b.drop used.toNat)-log-log<0 then none
  else byS (qF cs (2^log.toNat)) (kbV cs log (2^log.toNat) (2^log.toNat:Int).toNat) (kbA cs log (2^log.toNat) (2^log.toNat:Int).toNat) (b.drop used.toNat) F
   (rd (b.drop used.toNat) (jd (b.drop used.toNat)) log.toNat) (rd (b.drop used.toNat) (jd (b.drop used.toNat)-log) log.toNat) (jd (b.drop used.toNat)-log-log) []
theorem kno {A B C:Nat→Int} {b:List Int} (hA:∀k,kF (A k)):∀(F:Nat) (a o p:Int) (l L:List Int),(∀c∈l,kF c)→byS A B C b F a o p l=some L→(∀c∈L,kF c)∧L.length≤l.length+F+1
 |0,a,o,p,l,L,hl,h=>by simp[byS] at h
 | f+1,a,o,p,l,L,hl,h=>by
  have hl1:∀c∈l++[A a.toNat],kF c:=fun c hc=>(List.mem_append.1 hc).elim (hl c) (fun e=>by rw[List.mem_singleton.1 e];exact hA _)
  simp only[byS] at h;split at h
  ·rw[Option.some.injEq] at h;subst h;refine⟨fun c hc=>(List.mem_append.1 hc).elim (hl1 c) (fun e=>by rw[List.mem_singleton.1 e];exact hA _),?_⟩
   simp
  ·have:=kno hA f _ _ _ _ L hl1 h;refine⟨this.1,?_⟩
   have h2:=this.2;rw[List.length_append] at h2;simp at h2
   omega
theorem kkr {cs:List Int} {log:Int} (hR:jL cs log) (size:Int) (k:Nat):kF (qF cs size k):=by
 have h:=kbq (l:=cs) size (by have:=hR.2.2.1;omega) k;have:=hR.2.2.2.1;unfold kF;omega
theorem khg {F:Nat} {b L:List Int} (h:bst F b=some L):(∀c∈L,kF c)∧L.length≤F+1:=by
 unfold bst at h;generalize hRR:j4 b 6 11=r at h;obtain⟨cs,log,used,e⟩:=r;simp only at h
 split at h
 ·cases h
 split at h
 ·cases h
 rename_i hR;split at h
 ·cases h
 split at h
 ·cases h
 have:=kno (kkr (Decidable.not_not.1 hR) _) F _ _ _ _ L (by simp) h;simpa using this
theorem kiN {b:List Int} (hby:∀x∈b,isByte x) (u:Nat):∀x∈b.drop u,isByte x:=fun x hx=>hby x (List.mem_of_mem_drop hx)
theorem kjH (b:List Int) (u cap:Nat) (hu:u≤b.length) (hc:b.length≤cap):qp (if cap=u then 0 else 0+u) (b.drop u) b:=by
 refine⟨?_,fun i hi=>?_⟩
 ·rw[List.length_drop];split<;>omega
 ·rw[List.length_drop] at hi;rw[if_neg (by omega)];rw[List.getD_eq_getElem?_getD,List.getD_eq_getElem?_getD,List.getElem?_drop,Nat.zero_add]
theorem khh (b:List Int) (cap:Nat) (hby:∀x∈b,isByte x) (hl:b.length≤1000000) (hcap:b.length≤cap) :
  Con Try.prog 48 [.slice 0 .z 1 b.length cap] [.ro .u8 b] (fun v H R=>R=[]∧((bst 256 b=none∧H=[.ro .u8 b]∧v=.tup [.val (.slice none 0 0),.bool false]) ∨
   ∃L c',bst 256 b=some L∧H=[.ro .u8 b,.buf 5 .u8 L c']∧v=.tup [.slice 1 .z 1 L.length c',.bool true])):=by
 obtain⟨⟨cs,log,used,e⟩,hRR⟩:∃r,j4 b 6 11=r:=⟨_,rfl⟩;have hres:bst 256 b=(if e≠0 then none else if ¬jL cs log then none else if (b.drop used.toNat).getLastD 0=0 then none
  else if jd (b.drop used.toNat)-log-log<0 then none
  else byS (qF cs (2^log.toNat)) (kbV cs log (2^log.toNat) (2^log.toNat:Int).toNat) (kbA cs log (2^log.toNat) (2^log.toNat:Int).toNat) (b.drop used.toNat) 256
   (rd (b.drop used.toNat) (jd (b.drop used.toNat)) log.toNat) (rd (b.drop used.toNat) (jd (b.drop used.toNat)-log) log.toNat) (jd (b.drop used.toNat)-log-log) []):=by
  unfold bst;rw[hRR]
 by_cases he:e≠0
 ·have h1:=kdj b cap 6 11 hby (by omega) (by omega) (by omega) cs log used e hRR he;rw[if_pos he] at hres;refine kf (jh (kg (kc kj koo ?_)))
  intro vb vc vw vtoN vofN vaddN vsubN vmaxI vminI vcutN vgd vst vln vrep vsub vonto vsplice vstrEq vbyteV vnotB veqB hw qb qc qw qtoN qofN qaddN qsubN qmaxI qminI qcutN qgd qst qln qrep qsub qonto qsplice qstrEq qbyteV qnotB qeqB;have hm:=kj;generalize Try.prog=P at *;generalize b.length=bl at *;generalize bst 256 b=RES at *;have hz:vc .neq e 0=true:=by rw[qc,kz];exact he
  cbv;refine ka (ρ:=[(0,.z)]) h1 ⟨by rfl,by rfl,by rfl,by cbv;exact⟨kb _,trivial⟩⟩ ?_
  rintro v H R js ⟨rfl,rfl,rfl⟩;cbv;rw[hz];cbv;exact⟨[0],.tup [.val (.slice none 0 0),.bool false],[.ro .u8 b],rfl,rfl,rfl,rfl,⟨rfl,trivial⟩,rfl,.inl ⟨hres,rfl,rfl⟩⟩
 have he0:e=0:=Decidable.not_not.1 he;subst he0;rw[if_neg he] at hres;clear he;have h1:=keC b cap 6 11 hby (by omega) (by omega) (by omega) cs log used hRR;obtain⟨hcs,hu0,hu1,hlg0,hlg1⟩:=kb1 hRR;by_cases hR:jL cs log
 rotate_left
 ·have h2:=fun c=>kci cs log c hcs (by omega) hR
  rw[if_pos hR] at hres;refine kf (jh (kg (kc kj koo ?_)))
  intro vb vc vw vtoN vofN vaddN vsubN vmaxI vminI vcutN vgd vst vln vrep vsub vonto vsplice vstrEq vbyteV vnotB veqB hw qb qc qw qtoN qofN qaddN qsubN qmaxI qminI qcutN qgd qst qln qrep qsub qonto qsplice qstrEq qbyteV qnotB qeqB;have hm:=kj;generalize Try.prog=P at *;generalize b.length=bl at *;generalize cs.length=cl at *;generalize bst 256 b=RES at *;have h00:vc .neq 0 0=false:=by rw[qc];rfl
  have h70:vc .neq 70 0=true:=by rw[qc];rfl
  cbv;refine ka (ρ:=[(0,.z)]) h1 ⟨by rfl,by rfl,by rfl,by cbv;exact⟨kb _,trivial⟩⟩ ?_
  rintro v H R js ⟨rfl,c1,rfl,rfl⟩;cbv;rw[h00];cbv;refine ka (ρ:=[(1,.z)]) (h2 c1) ⟨by rfl,by rfl,by rfl,by cbv;exact⟨kb _,trivial⟩⟩ ?_
  rintro v H R js ⟨rfl,rfl,rfl⟩;cbv;rw[h70];cbv;exact⟨[0],.tup [.val (.slice none 0 0),.bool false],[.ro .u8 b],rfl,rfl,rfl,rfl,⟨rfl,trivial⟩,rfl,.inl ⟨hres,rfl,rfl⟩⟩
 rw[if_neg (fun h=>h hR)] at hres;have h2:=fun c=>kaw cs log c hcs (by omega) hR
 obtain⟨u,hu⟩:∃u:Nat,used=u:=⟨used.toNat,by omega⟩;subst hu;rw[Int.toNat_natCast] at hres;have hvd:=kjH b u cap (by omega) hcap;have hbd:=kiN hby u;have hbl':(b.drop u).length=b.length-u:=List.length_drop;by_cases hla:(b.drop u).getLastD 0=0
 ·have h3:=fun c=>kg7 (b.drop u) c hla (by omega)
  rw[if_pos hla] at hres;refine kf (jh (kg (kc kj koo ?_)))
  intro vb vc vw vtoN vofN vaddN vsubN vmaxI vminI vcutN vgd vst vln vrep vsub vonto vsplice vstrEq vbyteV vnotB veqB hw qb qc qw qtoN qofN qaddN qsubN qmaxI qminI qcutN qgd qst qln qrep qsub qonto qsplice qstrEq qbyteV qnotB qeqB;have hm:=kj;generalize Try.prog=P at *;generalize b.drop u=b' at *;rw[hbl'] at h3;generalize hbl:b.length=bl at *;generalize cs.length=cl at *;generalize bst 256 b=RES at *;generalize (2^log.toNat:Int).toNat=N at *;generalize qF cs (2^log.toNat)=A at *;generalize kbV cs log (2^log.toNat) N=B at *;generalize kbA cs log (2^log.toNat) N=C at *;have h00:vc .neq 0 0=false:=by rw[qc];rfl
  have htu:vtoN (u:Int)=u:=by rw[qtoN];exact Int.toNat_natCast u
  have hcu:vcutN 0 u cap=if cap=u then 0 else 0+u:=by rw[qcutN]
  have hsu:vsubN bl u=bl-u:=by rw[qsubN]
  obtain⟨uI,huI⟩:∃uI:Int,uI=(u:Int):=⟨_,rfl⟩;rw[←huI] at h1 htu hu0 hu1;rw[←hcu] at hvd;rw[←hsu] at h3;obtain⟨o1,ho1⟩:∃o1,o1=vcutN 0 u cap:=⟨_,rfl⟩;obtain⟨n1,hn1⟩:∃n1,n1=vsubN bl u:=⟨_,rfl⟩;rw[←ho1] at hvd;rw[←hn1] at h3;cbv;refine ka (ρ:=[(0,.z)]) h1 ⟨by rfl,by rfl,by rfl,by cbv;exact⟨kb _,trivial⟩⟩ ?_
  rintro v H R js ⟨rfl,c1,rfl,rfl⟩;cbv;rw[h00];cbv;refine ka (ρ:=[(1,.z)]) (h2 c1) ⟨by rfl,by rfl,by rfl,by cbv;exact⟨kb _,trivial⟩⟩ ?_
  rintro v H R js ⟨rfl,rfl,rfl⟩;cbv;rw[h00];cbv;rw[htu,←ho1,←hn1];refine⟨fun _=>rfl,⟨hu0,hu1⟩,?_⟩
  refine ka (ρ:=[(0,.n o1)]) (h3 (vsubN cap u)) ⟨by rfl,by rfl,by rfl,by cbv;exact⟨fun _=>rfl,hvd,trivial⟩⟩ ?_
  rintro v H R js ⟨rfl,rfl,rfl⟩;cbv;refine⟨fun _=>rfl,?_⟩
  exact⟨[0],.tup [.val (.slice none 0 0),.bool false],[.ro .u8 b],rfl,rfl,rfl,rfl,⟨rfl,trivial⟩,rfl,.inl ⟨hres,rfl,rfl⟩⟩
 rw[if_neg hla] at hres;have h3:=fun c=>kft (b.drop u) c hla hbd (by omega)
 obtain⟨P0,hP0,hP0l,_,_⟩:=kbU (b.drop u) hla hbd;have hmk:8*(((b.drop u).length:Int)-1)+(len8 ((b.drop u).getLastD 0)-1)=P0:=hP0;rw[hmk] at h3;rw[hP0] at hres;have hpl:=kez (log:=log) ⟨hlg0,hlg1⟩;obtain⟨N,hN⟩:∃N:Nat,(2^log.toNat:Int)=N:=⟨(2^log.toNat:Int).toNat,by omega⟩;have hNt:(2^log.toNat:Int).toNat=N:=by omega
 have hcell:∀k:Nat,k<N→0≤kbV cs log (2^log.toNat) N k∧kbV cs log (2^log.toNat) N k≤12∧0≤kbA cs log (2^log.toNat) N k∧kbA cs log (2^log.toNat) N k+2^(kbV cs log (2^log.toNat) N k).toNat≤N:=by
  intro k hk;obtain⟨bb,q1,q2,q3,q4,_⟩:=kkj hR rfl hN hk;rw[q2,Int.toNat_natCast,←hN];exact⟨by omega,by omega,q3,q4⟩
 have hbits:∀(c:Nat) (p n:Int),-100≤p→p≤8*(b.drop u).length→0≤n→n≤12→Con Try.prog 36 [.ptr 0 .z 2 0,.int .i64 n] [.one 143 [.slice 1 .z 1 (b.drop u).length c,.int .i64 p],.ro .u8 (b.drop u)]
   (fun v H R=>v=.int .u64 (rd (b.drop u) p n.toNat)∧R=[]∧H=[.one 143 [.slice 1 .z 1 (b.drop u).length c,.int .i64 (p-n)],.ro .u8 (b.drop u)]):=by
  intro c p n h1 h2 h3 h4;have:=kfr (b.drop u) c p n hbd ⟨by omega,h2⟩ (by omega);have e1:jO n=n.toNat:=by unfold jO;rw[if_neg (by omega),if_neg (by omega)]
  have e2:qD (p-(n.toNat:Nat))=p-n:=by unfold qD;rw[if_neg (by omega)];omega
  rw[e1,e2] at this;exact this
 have hleft:=fun c p=>kfs (b.drop u) (b.drop u).length c p
 have hrb:=fun p n=>jg (b.drop u) p n
 have hAu:=kkr hR (2^log.toNat);rw[hNt] at hres h2;have ha0:=hrb P0 log.toNat;have ho0:=hrb (P0-log) log.toNat;rw[hN] at ha0 ho0;refine kf (jh (kg (kc kj koo ?_)))
 intro vb vc vw vtoN vofN vaddN vsubN _ _ vcutN _ _ vln _ vsub vonto _ _ _ _ _ hw qb qc qw qtoN qofN qaddN qsubN _ _ qcutN _ _ qln _ qsub qonto _ _ _ _ _;have f40:=kqb;have hm:=kj;generalize Try.prog=P at *;generalize b.drop u=b' at *;rw[hbl'] at h3;simp only[hbl'] at hbits hleft;generalize hbl:b.length=bl at *;generalize cs.length=cl at *;generalize bst 256 b=RES at *;generalize qF cs (2^log.toNat)=A at *;generalize kbV cs log (2^log.toNat) N=B at *;generalize kbA cs log (2^log.toNat) N=C at *;have hby0:∀a o p l,byS A B C b' 0 a o p l=none:=fun _ _ _ _=>rfl
 have hbyS:∀f a o p l,byS A B C b' (f+1) a o p l=if p-B a.toNat<0 then some (l++[A a.toNat]++[A o.toNat]) else byS A B C b' f o (C a.toNat+rd b' p (B a.toNat).toNat) (p-B a.toNat) (l++[A a.toNat]):=fun _ _ _ _ _=>rfl
 generalize byS A B C b'=BY at *;generalize rd b'=RD at *;have h00:vc .neq 0 0=false:=by rw[qc];rfl
 have htu:vtoN (u:Int)=u:=by rw[qtoN];exact Int.toNat_natCast u
 have hcu:vcutN 0 u cap=if cap=u then 0 else 0+u:=by rw[qcutN]
 have hsu:vsubN bl u=bl-u:=by rw[qsubN]
 obtain⟨uI,huI⟩:∃uI:Int,uI=(u:Int):=⟨_,rfl⟩;rw[←huI] at h1 htu hu0 hu1;rw[←hcu] at hvd;rw[←hsu] at h3;simp only[←hsu] at hbits hleft;obtain⟨o1,ho1⟩:∃o1,o1=vcutN 0 u cap:=⟨_,rfl⟩;obtain⟨n1,hn1⟩:∃n1,n1=vsubN bl u:=⟨_,rfl⟩;rw[←ho1] at hvd;rw[←hn1] at h3;simp only[←hn1] at hbits hleft;obtain⟨pI,hpI⟩:∃pI:Int,pI=(P0:Int):=⟨_,rfl⟩;rw[←hpI] at h3 hres ha0 ho0;obtain⟨a0,ha0'⟩:∃a0,a0=RD pI log.toNat:=⟨_,rfl⟩;obtain⟨o0,ho0'⟩:∃o0,o0=RD (pI-log) log.toNat:=⟨_,rfl⟩;rw[←ha0',←ho0'] at hres;rw[←ha0'] at ha0;rw[←ho0'] at ho0;obtain⟨p1,hp1⟩:∃p1,p1=pI-log:=⟨_,rfl⟩;obtain⟨p2,hp2⟩:∃p2,p2=p1-log:=⟨_,rfl⟩;rw[←hp1] at ho0' hres;rw[←hp2] at hres;have hpb:pI<8*(n1:Int):=by omega
 have ewa:vw .i64 a0=a0:=by rw[qw];exact wrap_i64 (by omega) (by omega)
 have ewo:vw .i64 o0=o0:=by rw[qw];exact wrap_i64 (by omega) (by omega)
 cbv;refine ka (ρ:=[(0,.z)]) h1 ⟨by rfl,by rfl,by rfl,by cbv;exact⟨kb _,trivial⟩⟩ ?_
 rintro v H R js ⟨rfl,c1,rfl,rfl⟩;cbv;rw[h00];cbv;refine ka (ρ:=[(1,.z)]) (h2 c1) ⟨by rfl,by rfl,by rfl,by cbv;exact⟨kb _,trivial⟩⟩ ?_
 rintro v H R js ⟨rfl,rfl,rfl⟩;cbv;rw[h00];cbv;rw[htu,←ho1,←hn1];refine⟨fun _=>rfl,⟨hu0,hu1⟩,?_⟩
 refine CallX.cv f40.go (Cv.arrEq 2 (fun m=>[.int .u8 (A m),.int .u8 (B m),.int .u16 (C m)]) (by rfl) (by intro i;rfl) (Cv.here ?_)) (by rfl)
 refine ka (ρ:=[(0,.n o1)]) (h3 (vsubN cap u)) ⟨by rfl,by rfl,by rfl,by cbv;exact⟨fun _=>rfl,hvd,trivial⟩⟩ ?_
 rintro v H R js ⟨rfl,rfl,c2,rfl⟩;cbv;have hb1:=hbits c2 pI log (by((try simp only[nc] at *);omega)) (by((try simp only[nc] at *);omega)) (by((try simp only[nc] at *);omega)) (by((try simp only[nc] at *);omega));have hb2:=hbits c2 p1 log (by((try simp only[nc] at *);omega)) (by((try simp only[nc] at *);omega)) (by((try simp only[nc] at *);omega)) (by((try simp only[nc] at *);omega));rw[←ha0',←hp1] at hb1;rw[←ho0',←hp2] at hb2;have hlf:=hleft c2 p2;refine⟨fun _=>rfl,?_⟩
 refine ka (ρ:=[(4,.z),(3,.z)]) hb1 ⟨by rfl,by rfl,by rfl,by cbv;exact⟨fun _=>rfl,kb _,trivial⟩⟩ ?_
 rintro v H R js ⟨rfl,rfl,rfl⟩;cbv;rw[ewa];refine⟨fun _=>rfl,?_⟩
 refine ka (ρ:=[(4,.z),(3,.z)]) hb2 ⟨by rfl,by rfl,by rfl,by cbv;exact⟨fun _=>rfl,kb _,trivial⟩⟩ ?_
 rintro v H R js ⟨rfl,rfl,rfl⟩;cbv;rw[ewo];refine⟨fun _=>rfl,?_⟩
 refine ka (ρ:=[(4,.z),(3,.z)]) hlf ⟨by rfl,by rfl,by rfl,by cbv;exact⟨fun _=>rfl,kb _,trivial⟩⟩ ?_
 rintro v H R js ⟨rfl,rfl,rfl⟩;cbv;refine⟨fun _=>rfl,?_⟩
 generalize hz1:vc .lss p2 0=z1;cases z1
 rotate_left
 ·rw[qc,ko] at hz1;rw[if_pos hz1] at hres;cbv;exact⟨[0],.tup [.val (.slice none 0 0),.bool false],[.ro .u8 b],rfl,rfl,rfl,rfl,⟨rfl,trivial⟩,rfl,.inl ⟨hres,rfl,rfl⟩⟩
 rw[qc,km] at hz1;rw[if_neg hz1] at hres;clear hb1 hb2 hlf;cbv;refine WX.cv (Cv.nilT 12 5 .u8 (by rfl) (by cbv;exact⟨fun _=>rfl,trivial⟩) (Cv.here ?_))
 cbv;refine kG (α:=Int×Int×Int×Nat×Nat×List Int) ([13]++[51,52,53,54,55,56,57,58,59,60,61,62,63,64,65,66,67,68,69,70,71,72,73,74,75,76,77,78,79,80,81,82,83,84]) [5]
  (fun(a,o,p,n,c,L)=>[(10,.int .i64 a),(11,.int .i64 o),(12,.slice 5 .z 1 n c)]) (fun(a,o,p,n,c,L)=>[(4,.one 143 [.slice 3 .z 1 n1 c2,.int .i64 p]),(5,.buf 5 .u8 L c)])
  (fun(a,o,p,n,c,L)=>∃f:Nat,f+n=256∧RES=BY f a o p L∧n=L.length∧0≤a∧a<N∧0≤o∧o<N∧0≤p∧p≤pI∧n≤c) (fun(a,o,p,n,c,L)=>257-n) hw hm ?_ ?_
 ·refine Cv.genAt [] [] (Cv.fold ([13]++[51,52,53,54,55,56,57,58,59,60,61,62,63,64,65,66,67,68,69,70,71,72,73,74,75,76,77,78,79,80,81,82,83,84]) 6 [5] (by exact Nat.le_refl _) (by exact Nat.le_of_ble_eq_true rfl) (by rfl) (by cbv) ?_)
  intro js;refine⟨(_,_,_,_,_,_),?_,js,rfl⟩
  exact⟨256,rfl,hres,rfl,ha0.1,by omega,ho0.1,by omega,by omega,by omega,Nat.le_refl _⟩
 ·rintro⟨a,o,p,n,c,L⟩ js ⟨f,hfn,hRS,hnL,ha1,ha2,ho1',ho2',hp0,hpp,hnc⟩;obtain⟨nI,hnI⟩:∃nI:Int,nI=(n:Int):=⟨_,rfl⟩;have en:vofN n=nI:=by rw[qofN,hnI]
  cbv;rw[en];generalize hz2:vc .leq nI 255=z2;cases z2
  ·rw[qc,kgd] at hz2;have hf0:f=0:=by((try simp only[nc] at *);omega)
   subst hf0;rw[hby0] at hRS;cbv;exact⟨[0],.tup [.val (.slice none 0 0),.bool false],[.ro .u8 b],rfl,rfl,rfl,rfl,⟨rfl,trivial⟩,rfl,.inl ⟨hRS,rfl,rfl⟩⟩
  rw[qc,kc5] at hz2;obtain⟨g,rfl⟩:∃g,f=g+1:=⟨f-1,by((try simp only[nc] at *);omega)⟩;rw[hbyS] at hRS;obtain⟨aN,haN⟩:∃aN:Nat,aN=a.toNat:=⟨_,rfl⟩;obtain⟨oN,hoN⟩:∃oN:Nat,oN=o.toNat:=⟨_,rfl⟩;have hta:vtoN a=aN:=by rw[qtoN,haN]
  have hto:vtoN o=oN:=by rw[qtoN,hoN]
  rw[←haN,←hoN] at hRS;have haNN:aN<N:=by omega
  have hoNN:oN<N:=by omega
  have hc1:=hcell aN haNN;have hA1:=hAu aN;have hA2:=hAu oN;have hbt:=hbits c2 p (B aN) (by omega) (by omega) (by omega) (by omega);have hrr:=hrb p (B aN).toNat;generalize hBa:B aN=Ba at *;generalize hCa:C aN=Ca at *;generalize hAa:A aN=Aa at *;generalize hAo:A oN=Ao at *;obtain⟨x,hx⟩:∃x,x=RD p Ba.toNat:=⟨_,rfl⟩;rw[←hx] at hbt hRS hrr;obtain⟨q,hq⟩:∃q,q=p-Ba:=⟨_,rfl⟩;rw[←hq] at hbt hRS;have hlf:=hleft c2 q;have ewB:vw .i64 Ba=Ba:=by rw[qw];exact wrap_i64 (by omega) (by omega)
  have ewC:vw .i64 Ca=Ca:=by rw[qw];exact wrap_i64 (by omega) (by omega)
  have ewx:vw .i64 x=x:=by rw[qw];exact wrap_i64 (by omega) (by omega)
  obtain⟨y,hy⟩:∃y,y=Ca+x:=⟨_,rfl⟩;have eay:vb .add .i64 Ca x=y:=by rw[qb,ku (by omega) (by omega)];exact hy.symm
  rw[←hy] at hRS;have hinA:0≤a∧a<(N:Int):=⟨ha1,ha2⟩;have hinO:0≤o∧o<(N:Int):=⟨ho1',ho2'⟩;have hln1:∀z:Int,vln [z]=1:=fun z=>by rw[qln];rfl
  have hlnL:∀l,vln l=l.length:=fun l=>by rw[qln]
  have haddq:∀a b,vaddN a b=a+b:=fun a b=>by rw[qaddN]
  have hont:vonto L n (vsub [Aa] 0 1)=L++[Aa]:=by rw[qonto,qsub,hnL];simp
  obtain⟨L2,hL2⟩:∃L2,L2=L++[Aa]:=⟨_,rfl⟩;rw[←hL2] at hont hRS;have hL2n:L2.length=n+1:=by rw[hL2,List.length_append,hnL];rfl
  have ha1':=haddq n 1;obtain⟨n2,hn2⟩:∃n2,n2=n+1:=⟨_,rfl⟩;rw[←hn2] at ha1' hL2n;have hn2b:n2*1≤140737488355328:=by((try simp only[nc] at *);omega)
  cbv;rw[hta,hBa,hCa,hAa];refine⟨⟨hinA⟩,⟨haNN⟩,⟨haNN⟩,⟨haNN⟩,fun _=>rfl,fun _=>rfl,⟨by rw[haddq,hln1];exact Nat.le_refl _⟩,⟨by rw[hlnL,←hnL];exact Nat.le_refl _⟩,⟨Nat.le_refl _⟩,⟨by rw[ha1'];exact hn2b⟩,fun _=>rfl,?_⟩
  intro c4 js4 hle;have hle':n2≤c4:=by have:=hle.out;simp only at this;rw[ha1'] at this;exact this
  cbv;rw[hont,ha1',ewB,ewC];refine ka (ρ:=[(4,.z),(3,.z)]) hbt ⟨by rfl,by rfl,by rfl,by cbv;exact⟨fun _=>rfl,kb _,trivial⟩⟩ ?_
  rintro v H R js5 ⟨rfl,rfl,rfl⟩;cbv;refine⟨fun _=>rfl,?_⟩
  rw[ewx,eay];refine ka (ρ:=[(4,.z),(3,.z)]) hlf ⟨by rfl,by rfl,by rfl,by cbv;exact⟨fun _=>rfl,kb _,trivial⟩⟩ ?_
  rintro v H R js6 ⟨rfl,rfl,rfl⟩;cbv;refine⟨fun _=>rfl,?_⟩
  generalize hz3:vc .lss q 0=z3;cases z3
  ·rw[qc,km] at hz3;rw[if_neg hz3] at hRS;have hmu:∀_:Unit,257-n2<257-n:=fun _=>by((try simp only[nc] at *);omega)
   cbv;refine Cv.fold ([13]++[51,52,53,54,55,56,57,58,59,60,61,62,63,64,65,66,67,68,69,70,71,72,73,74,75,76,77,78,79,80,81,82,83,84]) 6 [5] (by exact Nat.le_refl _) (by exact Nat.le_of_ble_eq_true rfl) (by rfl) (by cbv) ?_
   intro js;refine⟨(_,_,_,_,_,_),?_,js,rfl⟩
   exact⟨⟨g,by omega,hRS,hL2n.symm,ho1',ho2',by omega,by omega,by omega,by omega,hle'⟩,hmu ()⟩
  ·rw[qc,ko] at hz3;rw[if_pos hz3] at hRS;have hont2:vonto L2 n2 (vsub [Ao] 0 1)=L2++[Ao]:=by rw[qonto,qsub,←hL2n];simp
   obtain⟨L3,hL3⟩:∃L3,L3=L2++[Ao]:=⟨_,rfl⟩;rw[←hL3] at hont2 hRS;have hL3n:L3.length=n2+1:=by rw[hL3,List.length_append,hL2n];rfl
   have ha2':=haddq n2 1;obtain⟨n3,hn3⟩:∃n3,n3=n2+1:=⟨_,rfl⟩;rw[←hn3] at ha2' hL3n;have hn3b:n3*1≤140737488355328:=by((try simp only[nc] at *);omega)
   cbv;rw[hto,hAo];refine⟨⟨hinO⟩,⟨hoNN⟩,fun _=>rfl,⟨by rw[haddq,hln1];exact Nat.le_refl _⟩,⟨by rw[hlnL,hL2n];exact Nat.le_refl _⟩,⟨Nat.le_refl _⟩,⟨by rw[ha2'];exact hn3b⟩,fun _=>rfl,?_⟩
   intro c5 js7 hle5;cbv;rw[hont2,ha2'];subst hL3n;exact⟨[0,5],.tup [.slice 1 .z 1 L3.length c5,.bool true],[.ro .u8 b,.buf 5 .u8 L3 c5],rfl,rfl,rfl,rfl,⟨rfl,rfl,trivial⟩,rfl,.inr ⟨L3,c5,hRS,rfl,rfl⟩⟩
def hnW (b:List Int):Int:=if 128≤b.getD 0 0 then(b.getD 0 0-126) / 2 else b.getD 0 0
def kfR (b:List Int) (k:Nat):Int:=if k % 2=0 then b.getD (1+k / 2) 0 / 16 else b.getD (1+k / 2) 0 % 16
def kbs (b:List Int) (n:Nat):List Int:=(List.range n).map (kfR b)
theorem kiO (b:List Int) (n:Nat):(kbs b n).length=n:=by simp[kbs]
theorem klQ (b:List Int) (n:Nat):kbs b (n+1)=kbs b n++[kfR b n]:=by simp[kbs,List.range_succ]
theorem klR (b:List Int) {n m:Nat} (h:n≤m):(kbs b m).take n=kbs b n:=by
 unfold kbs;rw[←List.map_take,List.take_range];congr 2
 omega
def kks (F:Nat) (b:List Int):Option (List Int):=if 128≤b.getD 0 0 then some (kbs b (b.getD 0 0-127).toNat) else bst F ((b.drop 1).take (b.getD 0 0).toNat)
def jQ (b:List Int):Prop:=b.length=0∨(b.length:Int)-1<hnW b
def RdW (F:Nat) (b l:List Int):Prop:=∃t,kks F b=some t∧OkE t l
theorem kqn {b:List Int} (hby:∀x∈b,isByte x) (k:Nat):0≤kfR b k∧kfR b k≤15:=by
 have h:=kar hby (1+k / 2);unfold isByte at h;unfold kfR;split<;>omega
theorem kkt {b:List Int} (hby:∀x∈b,isByte x) (n:Nat):∀c∈kbs b n,kF c:=by
 intro c hc;simp only[kbs,List.mem_map,List.mem_range] at hc;obtain⟨k,_,rfl⟩:=hc;have:=kqn hby k;unfold kF;omega
theorem knp (b:List Int) (n cap:Nat) (hn:1+n≤b.length) (hc:b.length≤cap):qp (if cap=1 then 0 else 0+1) ((b.drop 1).take n) b:=by
 have hlen:((b.drop 1).take n).length=n:=by rw[List.length_take,List.length_drop];omega
 refine⟨?_,fun i hi=>?_⟩
 ·rw[hlen];split<;>omega
 ·rw[hlen] at hi;rw[if_neg (by omega)];rw[List.getD_eq_getElem?_getD,List.getD_eq_getElem?_getD,List.getElem?_take,if_pos hi,List.getElem?_drop,Nat.zero_add]
theorem klS (b:List Int) (cap:Nat) (hby:∀x∈b,isByte x) (hl:b.length≤140737488355328) (hcap:b.length≤cap) (hcm:cap≤9223372036854775807) :
  Con Try.prog 20 [.slice 0 .z 1 b.length cap] [.ro .u8 b] (fun v H R=>R=[]∧((jQ b∧H=[.ro .u8 b]∧v=.tup [.val (.slice none 0 0),.int .i64 0,.int .i64 10]) ∨
   (¬jQ b∧(∀l,¬RdW 256 b l)∧H=[.ro .u8 b]∧v=.tup [.val (.slice none 0 0),.int .i64 0,.int .i64 11]) ∨
   (¬jQ b∧∃l c',RdW 256 b l∧H=[.ro .u8 b,.buf 5 .u8 l c']∧v=.tup [.slice 1 .z 1 l.length c',.int .i64 (1+hnW b),.int .i64 0]))):=by
 have hh:=kar hby 0;unfold isByte at hh;obtain⟨h,hh0⟩:∃h,h=b.getD 0 0:=⟨_,rfl⟩;rw[←hh0] at hh;have hhn:hnW b=if 128≤h then(h-126) / 2 else h:=by unfold hnW;rw[←hh0]
 have htp:∀F,kks F b=if 128≤h then some (kbs b (h-127).toNat) else bst F ((b.drop 1).take h.toNat):=fun F=>by unfold kks;rw[←hh0]
 obtain⟨n,hn⟩:∃n,n=hnW b:=⟨_,rfl⟩;rw[←hn] at hhn;have hsh:jQ b↔b.length=0∨(b.length:Int)-1<n:=by unfold jQ;rw[←hn]
 rw[←hn];by_cases h0:b.length=0
 ·have hs:=hsh.2 (.inl h0);refine kf (jh (kg (kc kj kom ?_)))
  intro vb vc vw vtoN vofN vaddN vsubN vmaxI vminI vcutN vgd vst vln vrep vsub vonto vsplice vstrEq vbyteV vnotB veqB hw qb qc qw qtoN qofN qaddN qsubN qmaxI qminI qcutN qgd qst qln qrep qsub qonto qsplice qstrEq qbyteV qnotB qeqB;have hm:=kj;generalize Try.prog=P at *;generalize jQ b=SH at *;generalize RdW 256 b=RW at *;generalize b.length=bl at *;subst h0;have e:vc .eql (vofN 0) 0=true:=by rw[qc,qofN];rfl
  cbv;rw[e];cbv;exact⟨[0],.tup [.val (.slice none 0 0),.lit .i64 0,.lit .i64 10],[.ro .u8 b],rfl,rfl,rfl,rfl,⟨rfl,trivial⟩,rfl,.inl ⟨hs,rfl,rfl⟩⟩
 by_cases h128:128≤h
 ·have hRW:∀l,RdW 256 b l↔OkE (kbs b (h-127).toNat) l:=by
   intro l;unfold RdW;rw[htp,if_pos h128];exact⟨fun⟨t,h1,h2⟩=>by rw[Option.some.injEq] at h1;subst h1;exact h2,fun h=>⟨_,rfl,h⟩⟩
  rw[if_pos h128] at hhn;obtain⟨nN,hnN⟩:∃nN:Nat,n=nN:=⟨n.toNat,by omega⟩;obtain⟨kN,hkN⟩:∃kN:Nat,h-127=kN:=⟨(h-127).toNat,by omega⟩;rw[hkN,Int.toNat_natCast] at hRW;have hk2:kN≤2*nN∧2*nN≤kN+1∧kN≤128∧nN≤64:=by omega
  have hends:=fun(c cc:Nat) (h:c≤cc)=>kiM (kbs b (2*nN)) kN c cc (kkt hby _) (by rw[kiO];omega) h (by omega)
  rw[klR b hk2.1] at hends;have hnl:∀k,(kbs b k).length=k:=kiO b;have hns:∀k,kbs b (k+1)=kbs b k++[kfR b k]:=klQ b;have hnb:∀i,kfR b (2*i)=b.getD (1+i) 0 / 16∧kfR b (2*i+1)=b.getD (1+i) 0 % 16:=by
   intro i;unfold kfR;rw[if_pos (by omega),if_neg (by omega),show 2*i / 2=i by omega,show(2*i+1) / 2=i by omega];exact⟨rfl,rfl⟩
  have hbb:=kar hby;unfold isByte at hbb;refine kf (jh (kg (kc kj kom ?_)))
  intro vb vc vw vtoN vofN vaddN vsubN vmaxI vminI vcutN vgd vst vln vrep vsub vonto vsplice vstrEq vbyteV vnotB veqB hw qb qc qw qtoN qofN qaddN qsubN qmaxI qminI qcutN qgd qst qln qrep qsub qonto qsplice qstrEq qbyteV qnotB qeqB;have f17:=kqX;have hm:=kj;generalize Try.prog=P at *;generalize jQ b=SH at *;generalize RdW 256 b=RW at *;generalize kfR b=NB at *;have hnib0:kbs b 0=[]:=rfl;generalize kbs b=NBS at *;generalize OkE (NBS kN)=OK at *;generalize hbl:b.length=bl at *;have hgd:∀i,vgd b i=b.getD i 0:=fun i=>by rw[qgd]
  have hlnb:vln b=bl:=by simp only[qln,hbl]
  have hlnq:∀l,vln l=l.length:=fun l=>by rw[qln]
  have haddq:∀a b,vaddN a b=a+b:=fun a b=>by rw[qaddN]
  obtain⟨bI,hbI⟩:∃bI:Int,bI=bl:=⟨_,rfl⟩;have ebl:vofN bl=bI:=by rw[qofN,hbI]
  have e0:vc .eql bI 0=false:=by rw[qc,kh];omega
  have ewh:vw .i64 h=h:=by rw[qw];exact wrap_i64 (by omega) (by omega)
  have e128:vc .geq h 128=true:=by rw[qc,jm];exact h128
  have e128':vc .lss h 128=false:=by rw[qc,km];omega
  have es1:vb .sub .i64 h 126=h-126:=by rw[qb,kJ (by omega) (by omega)]
  have eq1:vb .quo .i64 (h-126) 2=n:=by rw[qb,kcd (by omega) (by omega) (by omega),hhn]
  have es2:vb .sub .i64 bI 1=bI-1:=by rw[qb,kJ (by omega) (by omega)]
  have es3:vb .sub .i64 h 127=h-127:=by rw[qb,kJ (by omega) (by omega)]
  have ea1:vb .add .i64 1 n=1+n:=by rw[qb,ku (by omega) (by omega)]
  obtain⟨h126,hh126⟩:∃x,x=h-126:=⟨_,rfl⟩;rw[←hh126] at es1 eq1;obtain⟨h127,hh127⟩:∃x,x=h-127:=⟨_,rfl⟩;rw[←hh127] at es3;obtain⟨bI1,hbI1⟩:∃x,x=bI-1:=⟨_,rfl⟩;rw[←hbI1] at es2;obtain⟨n1,hn1⟩:∃x,x=1+n:=⟨_,rfl⟩;rw[←hn1] at ea1 ⊢
  cbv;rw[ebl,e0];cbv;rw[haddq,hlnb,hgd,←hh0,ewh,e128];refine⟨⟨by omega,by omega⟩,⟨by omega⟩,⟨by omega⟩,?_⟩
  cbv;rw[es1,eq1,ebl,es2];generalize hz1:vc .lss bI1 n=z1;cases z1
  rotate_left
  ·rw[qc,ko] at hz1;cbv;exact⟨[0],.tup [.val (.slice none 0 0),.lit .i64 0,.lit .i64 10],[.ro .u8 b],rfl,rfl,rfl,rfl,⟨rfl,trivial⟩,rfl,.inl ⟨hsh.2 (.inr (by((try simp only[nc] at *);omega))),rfl,rfl⟩⟩
  rw[qc,km] at hz1;have hnsh:¬SH:=fun h=>by rcases hsh.1 h with h|h<;>((try simp only[nc] at *);omega)
  have htn1:vtoN n1=1+nN:=by simp only[qtoN,hn1,hnN];((try simp only[nc] at *);omega)
  have hcut:vcutN 0 1 cap=1:=by rw[qcutN];simp only;rw[if_neg (by((try simp only[nc] at *);omega))]
  have hsb1:vsubN (1+nN) 1=nN:=by rw[qsubN];simp only;omega
  cbv;rw[e128'];cbv;rw[ea1,htn1,hcut,hsb1];refine⟨⟨by((try simp only[nc] at *);omega),by((try simp only[nc] at *);omega)⟩,⟨by omega,by omega⟩,?_⟩
  refine WX.cv (Cv.nilT 7 5 .u8 (by rfl) (by cbv;try exact⟨fun _=>rfl,trivial⟩) (Cv.here ?_))
  obtain⟨nI,hnI⟩:∃nI:Int,nI=(nN:Int):=⟨_,rfl⟩;have enN:vofN nN=nI:=by rw[qofN,hnI]
  obtain⟨c1,hc1⟩:∃c1,c1=vsubN cap 1:=⟨_,rfl⟩;cbv;rw[←hc1,enN];refine kG (α:=Int×Nat×Nat×List Int) ([10]++[45,46,47,48,49,50,51,52,53,54,55]) [1] (fun(k,m,c,L)=>[(44,.int .i64 k),(7,.slice 1 .z 1 m c)]) (fun(k,m,c,L)=>[(1,.buf 5 .u8 L c)])
   (fun(k,m,c,L)=>∃i:Nat,k=i∧i≤nN∧L=NBS (2*i)∧m=2*i∧m≤c) (fun(k,_)=>nN-k.toNat) hw hm ?_ ?_
  ·refine Cv.genAt [44] [] (Cv.fold ([10]++[45,46,47,48,49,50,51,52,53,54,55]) 2 [1] (by exact Nat.le_refl _) (by exact Nat.le_of_ble_eq_true rfl) (by rfl) (by cbv) ?_)
   intro js;refine⟨(_,_,_,_),?_,js,rfl⟩
   exact⟨0,rfl,by omega,hnib0.symm,rfl,Nat.le_refl _⟩
  ·rintro⟨k,m,c,L⟩ js ⟨i,hk,hi,hL,hm2,hmc⟩;cbv;generalize hz2:vc .lss k nI=z2;cases z2
   rotate_left
   ·rw[qc,ko] at hz2;have hlt:i<nN:=by((try simp only[nc] at *);omega)
    have hti:vtoN k=i:=by rw[qtoN,hk];exact Int.toNat_natCast i
    have hinR:0≤k∧k<(nN:Int):=by((try simp only[nc] at *);omega)
    obtain⟨k1,hk1⟩:∃k1:Int,k1=((i+1:Nat):Int):=⟨_,rfl⟩;have ek1:vb .add .i64 k 1=k1:=by(try simp only[nc] at *);rw[qb,ku (by omega) (by omega)];omega
    have hmu:∀_:Unit,nN-k1.toNat<nN-k.toNat:=fun _=>by((try simp only[nc] at *);omega)
    have hb1:=hbb (1+i);obtain⟨hn1',hn2'⟩:=hnb i;have hs1:=hns (2*i);have hs2:=hns (2*i+1);rw[hs1,List.append_assoc,hn1',hn2',←hL] at hs2;generalize hxx:b.getD (1+i) 0=x at *;obtain⟨x1,hx1⟩:∃x1,x1=x / 16:=⟨_,rfl⟩;obtain⟨x2,hx2⟩:∃x2,x2=x % 16:=⟨_,rfl⟩;have e1:vb .shr .u8 x 4=x1:=by rw[qb,jE (by decide),hx1];rfl
    have e2:vb .and .u8 x 15=x2:=by rw[qb,hx2,show(15:Int)=2^4-1 by decide,jf rfl 4 (by decide) hb1.1 (by show x<256;omega)];rfl
    rw[←hx1,←hx2] at hs2;obtain⟨L2,hL2⟩:∃L2,L2=NBS (2*i+1+1):=⟨_,rfl⟩;rw[←hL2] at hs2;have hont:vonto L m (vsub [x1,x2] 0 2)=L2:=by
     have hl2:L.length=m:=by rw[hL,hm2];exact hnl _
     rw[hs2,qonto,qsub,←hl2];simp
    have hln2:vln [x1,x2]=2:=by rw[qln];rfl
    have hlL:L.length=m:=by rw[hL,hm2];exact hnl _
    have ha2:=haddq m 2;obtain⟨m2,hm2'⟩:∃m2,m2=m+2:=⟨_,rfl⟩;rw[←hm2'] at ha2;have hm2b:m2*1≤140737488355328:=by omega
    have hlt2:1+i<bl:=by((try simp only[nc] at *);omega)
    cbv;rw[hti,haddq,hgd,hlnb,hxx,e1,e2];refine⟨⟨hinR⟩,⟨hlt2⟩,⟨hlt2⟩,⟨by rw[haddq,hln2];exact Nat.le_refl _⟩,⟨by rw[hlnq,hlL];exact Nat.le_refl _⟩,⟨Nat.le_refl _⟩,⟨by rw[ha2];exact hm2b⟩,?_⟩
    intro c2 js2 hle;have hle':m2≤c2:=by have:=hle.out;simp only at this;rw[ha2] at this;exact this
    cbv;rw[hont,ha2,ek1];refine Cv.fold ([10]++[45,46,47,48,49,50,51,52,53,54,55]) 2 [1] (by exact Nat.le_refl _) (by exact Nat.le_of_ble_eq_true rfl) (by rfl) (by cbv) ?_
    intro js;refine⟨(_,_,_,_),?_,js,rfl⟩
    exact⟨⟨i+1,hk1,hlt,hL2,by omega,hle'⟩,hmu ()⟩
   ·rw[qc,km] at hz2;have hin:i=nN:=by((try simp only[nc] at *);omega)
    subst hin;have hth:vtoN h127=kN:=by rw[qtoN,hh127,hkN];exact Int.toNat_natCast kN
    have hec:=hends c c (Nat.le_refl _);rw[←hL] at hec;have hnt:vnotB true=false:=by rw[qnotB];rfl
    have hnf:vnotB false=true:=by rw[qnotB];rfl
    cbv;rw[es3,hth];refine⟨⟨by((try simp only[nc] at *);omega),by((try simp only[nc] at *);omega)⟩,?_⟩
    refine ka (ρ:=[(1,.z)]) hec ⟨by rfl,by rfl,by rfl,by cbv⟩ ?_
    rintro v H R js3 ⟨rfl,⟨l,c3,hok,rfl,rfl⟩|⟨hno,l3,c3,rfl,rfl|⟨n3,rfl⟩⟩⟩
    ·obtain⟨ll,hll⟩:∃ll,ll=l.length:=⟨_,rfl⟩;rw[←hll];cbv;rw[hnt];cbv;rw[ea1];subst hll;exact⟨[0,1],.tup [.slice 1 .z 1 l.length c3,.int .i64 n1,.lit .i64 0],[.ro .u8 b,.buf 5 .u8 l c3],rfl,rfl,rfl,rfl,⟨rfl,rfl,trivial⟩,rfl,.inr (.inr ⟨hnsh,l,c3,(hRW l).2 hok,rfl,rfl⟩)⟩
    ·cbv;rw[hnf];cbv;exact⟨[0],.tup [.val (.slice none 0 0),.lit .i64 0,.lit .i64 11],[.ro .u8 b],rfl,rfl,rfl,rfl,⟨rfl,trivial⟩,rfl,.inr (.inl ⟨hnsh,fun l h=>hno l ((hRW l).1 h),rfl,rfl⟩)⟩
    ·cbv;rw[hnf];cbv;exact⟨[0],.tup [.val (.slice none 0 0),.lit .i64 0,.lit .i64 11],[.ro .u8 b],rfl,rfl,rfl,rfl,⟨rfl,trivial⟩,rfl,.inr (.inl ⟨hnsh,fun l h=>hno l ((hRW l).1 h),rfl,rfl⟩)⟩
 ·have hRW:∀l,RdW 256 b l↔∃t,bst 256 ((b.drop 1).take h.toNat)=some t∧OkE t l:=by
   intro l;unfold RdW;rw[htp,if_neg h128]
  rw[if_neg h128] at hhn;obtain⟨nN,hnN⟩:∃nN:Nat,n=nN:=⟨n.toNat,by omega⟩;have hht:h.toNat=nN:=by omega
  rw[hht] at hRW;by_cases hs1:(b.length:Int)-1<n
  ·have hs:=hsh.2 (.inr hs1);refine kf (jh (kg (kc kj kom ?_)))
   intro vb vc vw vtoN vofN vaddN vsubN vmaxI vminI vcutN vgd vst vln vrep vsub vonto vsplice vstrEq vbyteV vnotB veqB hw qb qc qw qtoN qofN qaddN qsubN qmaxI qminI qcutN qgd qst qln qrep qsub qonto qsplice qstrEq qbyteV qnotB qeqB;have hm:=kj;generalize Try.prog=P at *;generalize jQ b=SH at *;generalize RdW 256 b=RW at *;generalize hbl:b.length=bl at *;have hgd:∀i,vgd b i=b.getD i 0:=fun i=>by rw[qgd]
   have hlnb:vln b=bl:=by simp only[qln,hbl]
   have haddq:∀a b,vaddN a b=a+b:=fun a b=>by rw[qaddN]
   obtain⟨bI,hbI⟩:∃bI:Int,bI=bl:=⟨_,rfl⟩;have ebl:vofN bl=bI:=by rw[qofN,hbI]
   have e0:vc .eql bI 0=false:=by rw[qc,kh];omega
   have ewh:vw .i64 h=h:=by rw[qw];exact wrap_i64 (by omega) (by omega)
   have e128:vc .geq h 128=false:=by rw[qc,kZ];exact h128
   have es2:vb .sub .i64 bI 1=bI-1:=by rw[qb,kJ (by omega) (by omega)]
   obtain⟨bI1,hbI1⟩:∃x,x=bI-1:=⟨_,rfl⟩;rw[←hbI1] at es2;have hz1:vc .lss bI1 h=true:=by rw[qc,ko];omega
   cbv;rw[ebl,e0];cbv;rw[haddq,hlnb,hgd,←hh0,ewh,e128];refine⟨⟨by omega,by omega⟩,⟨by omega⟩,⟨by omega⟩,?_⟩
   cbv;rw[ebl,es2,hz1];cbv;exact⟨[0],.tup [.val (.slice none 0 0),.lit .i64 0,.lit .i64 10],[.ro .u8 b],rfl,rfl,rfl,rfl,⟨rfl,trivial⟩,rfl,.inl ⟨hs,rfl,rfl⟩⟩
  have hnsh0:¬jQ b:=fun h=>by rcases hsh.1 h with h|h<;>omega
  have hml:((b.drop 1).take nN).length=nN:=by rw[List.length_take,List.length_drop];omega
  have hmb:∀x∈(b.drop 1).take nN,isByte x:=fun x hx=>hby x (List.mem_of_mem_drop (List.mem_of_mem_take hx))
  have hvm:=knp b nN cap (by omega) hcap;have hbs:=fun c h=>khh ((b.drop 1).take nN) c hmb (by omega) h
  rw[hml] at hbs;have hu8:=fun L=>@khg 256 ((b.drop 1).take nN) L
  have hends:=fun(L:List Int) (c cc:Nat) (hL:bst 256 ((b.drop 1).take nN)=some L) (h:c≤cc)=>kiM L L.length c cc (khg hL).1 (Nat.le_refl _) h (by have:=(khg hL).2;omega)
  simp only[List.take_length] at hends;refine kf (jh (kg (kc kj kom ?_)))
  intro vb vc vw vtoN vofN vaddN vsubN _ _ vcutN vgd _ vln _ _ _ _ _ _ vnotB _ _ qb qc qw qtoN qofN qaddN qsubN _ _ qcutN qgd _ qln _ _ _ _ _ _ qnotB _;have hm:=kj;generalize Try.prog=P at *;generalize jQ b=SH at *;generalize RdW 256 b=RW at *;generalize bst 256 ((b.drop 1).take nN)=RES at *;generalize (b.drop 1).take nN=b1 at *;generalize hOE:OkE=OE at *;generalize hbl:b.length=bl at *;have hgd:∀i,vgd b i=b.getD i 0:=fun i=>by rw[qgd]
  have hlnb:vln b=bl:=by simp only[qln,hbl]
  have haddq:∀a b,vaddN a b=a+b:=fun a b=>by rw[qaddN]
  obtain⟨bI,hbI⟩:∃bI:Int,bI=bl:=⟨_,rfl⟩;have ebl:vofN bl=bI:=by rw[qofN,hbI]
  have e0:vc .eql bI 0=false:=by rw[qc,kh];omega
  have ewh:vw .i64 h=h:=by rw[qw];exact wrap_i64 (by omega) (by omega)
  have e128:vc .geq h 128=false:=by rw[qc,kZ];exact h128
  have e128':vc .lss h 128=true:=by rw[qc,ko];omega
  have es2:vb .sub .i64 bI 1=bI-1:=by rw[qb,kJ (by omega) (by omega)]
  obtain⟨bI1,hbI1⟩:∃x,x=bI-1:=⟨_,rfl⟩;rw[←hbI1] at es2;have hz1:vc .lss bI1 h=false:=by rw[qc,km];omega
  have ea1:vb .add .i64 1 h=1+n:=by rw[qb,ku (by omega) (by omega),hhn]
  obtain⟨n1,hn1⟩:∃x,x=1+n:=⟨_,rfl⟩;rw[←hn1] at ea1 ⊢
  have htn1:vtoN n1=1+nN:=by simp only[qtoN,hn1,hnN];((try simp only[nc] at *);omega)
  have hcut:vcutN 0 1 cap=if cap=1 then 0 else 0+1:=by rw[qcutN]
  have hsb1:vsubN (1+nN) 1=nN:=by rw[qsubN];simp only;omega
  have hcp:nN≤vsubN cap 1:=by rw[qsubN];simp only;omega
  rw[←hcut] at hvm;obtain⟨o1,ho1⟩:∃o1,o1=vcutN 0 1 cap:=⟨_,rfl⟩;rw[←ho1] at hvm;obtain⟨c1,hc1⟩:∃c1,c1=vsubN cap 1:=⟨_,rfl⟩;rw[←hc1] at hcp;have hbs1:=hbs c1 hcp;have hnt:vnotB true=false:=by rw[qnotB];rfl
  have hnf:vnotB false=true:=by rw[qnotB];rfl
  cbv;rw[ebl,e0];cbv;rw[haddq,hlnb,hgd,←hh0,ewh,e128];refine⟨⟨by omega,by omega⟩,⟨by omega⟩,⟨by omega⟩,?_⟩
  cbv;rw[ebl,es2,hz1];cbv;rw[e128'];cbv;rw[ea1,htn1,←ho1,hsb1,←hc1];refine⟨⟨by((try simp only[nc] at *);omega),by((try simp only[nc] at *);omega)⟩,⟨by omega,by((try simp only[nc] at *);omega)⟩,?_⟩
  refine ka (ρ:=[(0,.n o1)]) hbs1 ⟨by rfl,by rfl,by rfl,by cbv;exact⟨hvm,trivial⟩⟩ ?_
  rintro v H R js ⟨rfl,⟨hres,rfl,rfl⟩|⟨L,c2,hres,rfl,rfl⟩⟩
  ·cbv;rw[hnf];cbv;have hno:∀l,¬RW l:=fun l h=>by
    obtain⟨t,h1,_⟩:=(hRW l).1 h;rw[hres] at h1;cases h1
   exact⟨[0],.tup [.val (.slice none 0 0),.lit .i64 0,.lit .i64 11],[.ro .u8 b],rfl,rfl,rfl,rfl,⟨rfl,trivial⟩,rfl,.inr (.inl ⟨hnsh0,hno,rfl,rfl⟩)⟩
  ·have hec:=hends L c2 c2 hres (Nat.le_refl _);have hRW':∀l,RW l↔OE L l:=fun l=>by
    rw[hRW,hres];exact⟨fun⟨t,h1,h2⟩=>by rw[Option.some.injEq] at h1;subst h1;exact h2,fun h=>⟨_,rfl,h⟩⟩
   obtain⟨Ln,hLn⟩:∃Ln,Ln=L.length:=⟨_,rfl⟩;rw[←hLn] at hec ⊢
   generalize OE L=OK at *;cbv;refine ka (ρ:=[(1,.z)]) hec ⟨by rfl,by rfl,by rfl,by cbv⟩ ?_
   rintro v H R js3 ⟨rfl,⟨l,c3,hok,rfl,rfl⟩|⟨hno,l3,c3,rfl,rfl|⟨n3,rfl⟩⟩⟩
   ·obtain⟨ll,hll⟩:∃ll,ll=l.length:=⟨_,rfl⟩;rw[←hll];cbv;rw[hnt];cbv;rw[ea1];subst hll;exact⟨[0,1],.tup [.slice 1 .z 1 l.length c3,.int .i64 n1,.lit .i64 0],[.ro .u8 b,.buf 5 .u8 l c3],rfl,rfl,rfl,rfl,⟨rfl,rfl,trivial⟩,rfl,.inr (.inr ⟨hnsh0,l,c3,(hRW' l).2 hok,rfl,rfl⟩)⟩
   ·cbv;rw[hnf];cbv;exact⟨[0],.tup [.val (.slice none 0 0),.lit .i64 0,.lit .i64 11],[.ro .u8 b],rfl,rfl,rfl,rfl,⟨rfl,trivial⟩,rfl,.inr (.inl ⟨hnsh0,fun l h=>hno l ((hRW' l).1 h),rfl,rfl⟩)⟩
   ·cbv;rw[hnf];cbv;exact⟨[0],.tup [.val (.slice none 0 0),.lit .i64 0,.lit .i64 11],[.ro .u8 b],rfl,rfl,rfl,rfl,⟨rfl,trivial⟩,rfl,.inr (.inl ⟨hnsh0,fun l h=>hno l ((hRW' l).1 h),rfl,rfl⟩)⟩
theorem RdW.uniq {F:Nat} {b l l':List Int} (h:RdW F b l) (h':RdW F b l'):l=l':=by
 obtain⟨t,h1,h2⟩:=h;obtain⟨t',h3,h4⟩:=h';rw[h1,Option.some.injEq] at h3;subst h3;exact h2.uniq h4
theorem knq {F:Nat} {b l:List Int} (hby:∀x∈b,isByte x) (h:RdW F b l):(∀c∈l,kF c)∧l.length≤256∧∃M,Wt l M:=by
 obtain⟨t,ht,h1,h2,_,⟨k,_,rfl⟩,M,hW⟩:=h;have htu:∀c∈t,kF c:=by
  unfold kks at ht;split at ht
  ·rw[Option.some.injEq] at ht;rw[←ht];exact kkt hby _
  ·exact(khg ht).1
 refine⟨fun c hc=>?_,by rw[List.length_append,List.length_singleton];omega,M,hW⟩
 rcases List.mem_append.1 hc with hc|hc
 ·exact htu c hc
 ·rw[List.mem_singleton] at hc;have:=hW.2.2.2.1 t.length (by rw[List.length_append,List.length_singleton];omega);rw[List.getD_eq_getElem?_getD,List.getElem?_append_right (Nat.le_refl _),Nat.sub_self] at this;simp only[List.getElem?_cons_zero,Option.getD_some] at this;unfold kF;omega
theorem kqo {b:List Int} (hby:∀x∈b,isByte x):0≤hnW b:=by
 have h:=kar hby 0;unfold isByte at h;unfold hnW;split<;>omega
open Classical in
noncomputable def rdw (c:List Int):Option (List Int):=if h:¬jQ c∧∃l,RdW 256 c l then some h.2.choose else none
theorem knr {c l:List Int} (h:¬jQ c) (hl:RdW 256 c l):rdw c=some l:=by
 have hh:¬jQ c∧∃l,RdW 256 c l:=⟨h,l,hl⟩;unfold rdw;rw[dif_pos hh,RdW.uniq hh.2.choose_spec hl]
theorem klT {c:List Int} (h:jQ c):rdw c=none:=dif_neg (fun k=>k.1 h)
theorem koz {c:List Int} (h:∀l,¬RdW 256 c l):rdw c=none:=dif_neg (fun k=>h _ k.2.choose_spec)
theorem kiP {c l:List Int} (h:rdw c=some l):¬jQ c∧RdW 256 c l:=by
 unfold rdw at h;split at h
 ·rename_i hh;rw[Option.some.injEq] at h;rw[←h];exact⟨hh.1,hh.2.choose_spec⟩
 ·cases h
theorem kku (c:List Int) (cap:Nat) (hb:∀x∈c,kF x) (hl:c.length≤140737488355328) (hcap:c.length≤cap) (hcm:cap≤9223372036854775807) :
  Con Try.prog 20 [.slice 0 .z 1 c.length cap] [.ro .u8 c] (fun v H R=>R=[]∧((∃e:Int,e≠0∧rdw c=none∧H=[.ro .u8 c]∧v=.tup [.val (.slice none 0 0),.int .i64 0,.int .i64 e]) ∨
   ∃l c',rdw c=some l∧H=[.ro .u8 c,.buf 5 .u8 l c']∧v=.tup [.slice 1 .z 1 l.length c',.int .i64 (1+hnW c),.int .i64 0])):=by
 refine(klS c cap (jJ hb) hl hcap hcm).mono ?_
 rintro v H R ⟨rfl,⟨h1,rfl,rfl⟩|⟨h1,h2,rfl,rfl⟩|⟨h1,l,c',h2,rfl,rfl⟩⟩
 ·exact⟨rfl,.inl ⟨10,by decide,klT h1,rfl,rfl⟩⟩
 ·exact⟨rfl,.inl ⟨11,by decide,koz h2,rfl,rfl⟩⟩
 ·exact⟨rfl,.inr ⟨l,c',knr h1 h2,rfl,rfl⟩⟩
inductive klU where
 |bad (e:Int)
 |keep (L:List Int) (u:Int)
 |rep (x:Int) (n:Nat) (u:Int)
 |own (L l:List Int) (u:Int)
def bhH (b:List Int):Int:=if kdH b=0 then szH b else if kdH b=1 then 1 else pkH b
def kept (u:Int):Option (List Int)→klU
 |none=>.bad 11
 |some L=>.keep L u
def owned (l:List Int) (u:Int):Option (List Int)→klU
 |none=>.bad 11
 |some L=>.own L l u
noncomputable def kb2 (kd sz rw u:Int) (c w:List Int):klU:=
 if kd=0 then .keep c u else if kd=1 then .rep (c.getD 0 0) sz.toNat u
 else if kd=2 then match rdw c with
  |none=>.bad 11
  |some l=>owned l u (qZ l (c.drop (1+hnW c).toNat) sz rw)
 else kept u (qZ w c sz rw)
noncomputable def RdL (b w:List Int) (most:Int):klU:=
 if most<0∨131072<most then .bad 2 else if b.length=0 then .bad 10 else if (b.length:Int)<usH b then .bad 10
 else if most<szH b then .bad 11 else if (b.length:Int)<usH b+bhH b then .bad 10
 else kb2 (kdH b) (szH b) (rwH b) (usH b+bhH b) (seg b (usH b) (bhH b).toNat) w
theorem kjI (b:List Int):0≤szH b:=by
 unfold szH;exact Int.emod_nonneg _ (Int.ne_of_gt (Int.pow_pos (by decide)))
theorem kns (b:List Int):1≤btH b∧btH b≤20:=by
 unfold btH;split<;>split<;>first|omega|(split<;>omega)
theorem kdU {b:List Int} (hb:∀c∈b,kF c):0≤pkH b∧pkH b≤262143:=by
 unfold pkH;split
 ·omega
 ·rename_i hk;have hf:=kfH hb;rcases(show fmH b=0∨fmH b=1∨fmH b=2∨fmH b=3 by omega) with hf|hf|hf|hf
  ·have h:=kY hb 3;rw[show nmH b=kV b 3 / 16 by unfold nmH usH;rw[if_neg hk,hf];rfl,show btH b=10 by unfold btH;rw[if_neg hk,hf];rfl,show(2:Int)^10=1024 by decide];rw[show(2:Int)^(8*3)=16777216 by decide] at h;omega
  ·have h:=kY hb 3;rw[show nmH b=kV b 3 / 16 by unfold nmH usH;rw[if_neg hk,hf];rfl,show btH b=10 by unfold btH;rw[if_neg hk,hf];rfl,show(2:Int)^10=1024 by decide];rw[show(2:Int)^(8*3)=16777216 by decide] at h;omega
  ·have h:=kY hb 4;rw[show nmH b=kV b 4 / 16 by unfold nmH usH;rw[if_neg hk,hf];rfl,show btH b=14 by unfold btH;rw[if_neg hk,hf];rfl,show(2:Int)^14=16384 by decide];rw[show(2:Int)^(8*4)=4294967296 by decide] at h;omega
  ·have h:=kY hb 5;rw[show nmH b=kV b 5 / 16 by unfold nmH usH;rw[if_neg hk,hf];rfl,show btH b=18 by unfold btH;rw[if_neg hk,hf];rfl,show(2:Int)^18=262144 by decide];rw[show(2:Int)^(8*5)=1099511627776 by decide] at h;omega
theorem kfS {b:List Int} {o n h x:Nat} (hn:o+n≤b.length) (hh:h≤n) (hx:x=o+h∨h=n∧x≤b.length):qp x ((seg b o n).drop h) b:=by
 have hl:((seg b o n).drop h).length=n-h:=by rw[List.length_drop,kae hn]
 refine⟨?_,fun i hi=>?_⟩
 ·rw[hl];omega
 ·rw[hl] at hi;rw[List.getD_eq_getElem?_getD,List.getElem?_drop,←List.getD_eq_getElem?_getD,keB b o (by omega)];rcases hx with rfl|⟨rfl,_⟩
  ·rw[Nat.add_assoc]
  ·omega
theorem kck (b w:List Int) (most:Int) :
  (most<0∨131072<most→RdL b w most=.bad 2)∧(¬(most<0∨131072<most)→b.length=0→RdL b w most=.bad 10) ∧
  (¬(most<0∨131072<most)→¬b.length=0→(b.length:Int)<usH b→RdL b w most=.bad 10) ∧
  (¬(most<0∨131072<most)→¬b.length=0→¬(b.length:Int)<usH b→most<szH b→RdL b w most=.bad 11) ∧
  (¬(most<0∨131072<most)→¬b.length=0→¬(b.length:Int)<usH b→¬most<szH b→(b.length:Int)<usH b+bhH b→RdL b w most=.bad 10) ∧
  (¬(most<0∨131072<most)→¬b.length=0→¬(b.length:Int)<usH b→¬most<szH b→¬(b.length:Int)<usH b+bhH b →
   RdL b w most=kb2 (kdH b) (szH b) (rwH b) (usH b+bhH b) (seg b (usH b) (bhH b).toNat) w):=by
 unfold RdL;refine⟨fun h=>if_pos h,fun h h1=>?_,fun h h1 h2=>?_,fun h h1 h2 h3=>?_,fun h h1 h2 h3 h4=>?_,fun h h1 h2 h3 h4=>?_⟩
 ·rw[if_neg h,if_pos h1]
 ·rw[if_neg h,if_neg h1,if_pos h2]
 ·rw[if_neg h,if_neg h1,if_neg h2,if_pos h3]
 ·rw[if_neg h,if_neg h1,if_neg h2,if_neg h3,if_pos h4]
 ·rw[if_neg h,if_neg h1,if_neg h2,if_neg h3,if_neg h4]
def PRd (b w:List Int) (cap2:Nat):klU→SV→List SB→Prop
 |.bad e,v,H=>v=.tup [.val (.slice none 0 0),.val (.slice none 0 0),.int .i64 0,.int .i64 e]∧H=[.ro .u8 b,.ro .u8 w]
 |.keep L u,v,H=>∃c,L.length≤c∧v=.tup [.slice 2 .z 1 L.length c,.slice 1 .z 1 w.length cap2,.int .i64 u,.int .i64 0]∧H=[.ro .u8 b,.ro .u8 w,.buf 5 .u8 L c]
 |.rep x n u,v,H=>∃L c,n≤c∧n≤L.length∧L.take n=List.replicate n x∧v=.tup [.slice 2 .z 1 n c,.slice 1 .z 1 w.length cap2,.int .i64 u,.int .i64 0]∧H=[.ro .u8 b,.ro .u8 w,.ints 5 .u8 L]
 |.own L l u,v,H=>∃c c3,L.length≤c∧v=.tup [.slice 2 .z 1 L.length c,.slice 3 .z 1 l.length c3,.int .i64 u,.int .i64 0]∧H=[.ro .u8 b,.ro .u8 w,.buf 5 .u8 L c,.buf 5 .u8 l c3]
def knt:List SV:=[.int .i64 1,.int .i64 5,.int .i64 0,.int .i64 2,.int .i64 12,.int .i64 0,.int .i64 1,.int .i64 5,.int .i64 0,.int .i64 3,.int .i64 20,.int .i64 0]
def koA:List SV:=[.int .i64 3,.int .i64 10,.int .i64 1,.int .i64 3,.int .i64 10,.int .i64 4,.int .i64 4,.int .i64 14,.int .i64 4,.int .i64 5,.int .i64 18,.int .i64 4]
theorem klV {b:List Int} (hb:∀c∈b,kF c) (h:kdH b<2):takeA 3 (kcX 3 (fmH b).toNat knt)=[.int .i64 (usH b),.int .i64 (btH b),.int .i64 (rwH b)]:=by
 have hf:=kfH hb;rcases(show fmH b=0∨fmH b=1∨fmH b=2∨fmH b=3 by omega) with hf|hf|hf|hf <;>
 ·unfold usH btH rwH;simp only[if_pos h,hf];rfl
theorem kjJ {b:List Int} (hb:∀c∈b,kF c) (h:¬kdH b<2):takeA 3 (kcX 3 (fmH b).toNat koA)=[.int .i64 (usH b),.int .i64 (btH b),.int .i64 (rwH b)]:=by
 have hf:=kfH hb;rcases(show fmH b=0∨fmH b=1∨fmH b=2∨fmH b=3 by omega) with hf|hf|hf|hf <;>
 ·unfold usH btH rwH;simp only[if_neg h,hf];rfl
theorem koB {b:List Int} (hb:∀c∈b,kF c):∃p q r:Int,takeA 3 (kcX 3 (fmH b).toNat knt)=[.int .i64 p,.int .i64 q,.int .i64 r]:=by
 have hf:=kfH hb;rcases(show fmH b=0∨fmH b=1∨fmH b=2∨fmH b=3 by omega) with hf|hf|hf|hf <;>
 ·rw[hf];exact⟨_,_,_,rfl⟩
theorem joinL {A B:Prop} (G:Prop) (h1:G→A) (h2:G→B) (h:G):A∧B:=⟨h1 h,h2 h⟩
theorem knu {b:List Int} (h:usH b=1):kdH b<2:=by
 unfold usH at h;split at h
 ·assumption
 ·split at h
  ·omega
  ·split at h<;>omega
theorem krz {b:List Int} (h:¬kdH b<2):pkH b=nmH b / 2^btH b:=by unfold pkH;rw[if_neg h]
-- READ

theorem kqp (b w:List Int) (cap cap2:Nat) (most:Int) (hb:∀c∈b,kF c) (hw8:∀c∈w,kF c) (hbl:b.length≤140737488355328) (hwl:w.length≤140737488355328) (hcap:b.length≤cap) (hcm:cap≤9223372036854775807) (hk:kdH b<2) (hb0:¬b.length=0) (hmo:¬(most<0∨131072<most)) :
  Con Try.prog 23 [.slice 0 .z 1 b.length cap,.slice 1 .z 1 w.length cap2,.int .i64 most] [.ro .u8 b,.ro .u8 w] (fun v H R=>R=[]∧PRd b w cap2 (RdL b w most) v H):=by
 obtain⟨f2,f10,f10a,f11,f10b,fB⟩:=kck b w most;have hk4:=kfH hb;have hsz0:=kjI b;have hpk:=kdU hb;have hus:=khc b;have hBH:bhH b=if kdH b=0 then szH b else if kdH b=1 then 1 else pkH b:=rfl
 obtain⟨X,hX⟩:∃X,X=RdL b w most:=⟨_,rfl⟩;have pbad:∀e,X=.bad e→PRd b w cap2 X (.tup [.val (.slice none 0 0),.val (.slice none 0 0),.int .i64 0,.int .i64 e]) [.ro .u8 b,.ro .u8 w]:=by
  intro e h;rw[h];exact⟨rfl,rfl⟩
 have pkeep:∀L u c,L.length≤c→X=.keep L u→PRd b w cap2 X (.tup [.slice 2 .z 1 L.length c,.slice 1 .z 1 w.length cap2,.int .i64 u,.int .i64 0]) [.ro .u8 b,.ro .u8 w,.buf 5 .u8 L c]:=by
  intro L u c h0 h;rw[h];exact⟨c,h0,rfl,rfl⟩
 have prep:∀x n u L c,n≤c→n≤L.length→L.take n=List.replicate n x→X=.rep x n u→PRd b w cap2 X (.tup [.slice 2 .z 1 n c,.slice 1 .z 1 w.length cap2,.int .i64 u,.int .i64 0]) [.ro .u8 b,.ro .u8 w,.ints 5 .u8 L]:=by
  intro x n u L c h0 h1 h2 h;rw[h];exact⟨L,c,h0,h1,h2,rfl,rfl⟩
 have pown:∀L l u c c3,L.length≤c→X=.own L l u→PRd b w cap2 X (.tup [.slice 2 .z 1 L.length c,.slice 3 .z 1 l.length c3,.int .i64 u,.int .i64 0]) [.ro .u8 b,.ro .u8 w,.buf 5 .u8 L c,.buf 5 .u8 l c3]:=by
  intro L l u c c3 h0 h;rw[h];exact⟨c,c3,h0,rfl,rfl⟩
 obtain⟨US,hUS⟩:∃US:Int,US=(usH b:Int):=⟨_,rfl⟩;obtain⟨bI,hbI⟩:∃bI:Int,bI=(b.length:Int):=⟨_,rfl⟩;rw[←hUS,←hbI] at f10a f11 f10b fB;rw[←hX] at f2 f10 f10a f11 f10b fB ⊢
 have hrowsA:=kiL;have hrdA:=kku;have hrepA:=kcL;have hseg:=fun o n h=>@kae b o n h
 have hvs:=fun o n x h hx=>@kfE b o n x h hx
 have hsm:=fun o n=>@kdi b o n kF hb
 have hsegd:∀o n,seg b o n=(b.drop o).take n:=fun _ _=>rfl
 replace f10a:=fun(_:Unit)=>f10a hmo hb0
 replace f11:=fun(_:Unit)=>f11 hmo hb0
 replace f10b:=fun(_:Unit)=>f10b hmo hb0
 replace fB:=fun(_:Unit)=>fB hmo hb0
 clear f2 f10;have hplain:=kgx;have hpacked:=kfD;have hidx:=klV hb hk;have hx8:=jB hb 0;unfold kF at hx8;have hkd:∀_:Unit,kdH b=b.getD 0 0 % 4:=fun _=>rfl
 have hfd:∀_:Unit,fmH b=b.getD 0 0 / 4 % 4:=fun _=>rfl
 have hbt:=kns b;have hnr:=kgy hb;have hAr:=kY hb (usH b);have hnum:=fun c h=>kem b (usH b) c hb h (by omega)
 have hvt:=view_take b (usH b);have hA40:kV b (usH b)<2^40:=Int.lt_of_lt_of_le hAr.2 (by
  have:=Nat.pow_le_pow_right (n:=2) (by decide) (show 8*usH b≤40 by omega)
  exact_mod_cast this)
 have hnm:∀_:Unit,nmH b=if usH b=1 then b.getD 0 0 / 8 else kV b (usH b) / 16:=fun _=>rfl
 have hszd:∀_:Unit,szH b=nmH b % 2^btH b:=fun _=>rfl
 obtain⟨pw,hpw⟩:∃pw:Int,pw=2^btH b:=⟨_,rfl⟩;have hpw1:1≤pw:=by rw[hpw];exact Int.pow_pos (by decide)
 have hpw2:pw≤2^20:=by
  rw[hpw];have:=Nat.pow_le_pow_right (n:=2) (by decide) (show btH b≤20 by omega)
  exact_mod_cast this
 rw[←hpw] at hszd;have hszl:szH b<pw:=by rw[hszd ()];exact Int.emod_lt_of_pos _ (by omega)
 obtain⟨NP,hNP⟩:∃NP:Int,NP=nmH b / pw:=⟨_,rfl⟩;have hNP0:0≤NP∧NP<2^40:=by
  rw[hNP];exact⟨Int.ediv_nonneg hnr.1 (by omega),Int.lt_of_le_of_lt (Int.ediv_le_self _ hnr.1) hnr.2⟩
 rw[show(2:Int)^40=1099511627776 by decide] at hA40 hnr hNP0;rw[show(2:Int)^20=1048576 by decide] at hpw2;obtain⟨BT,hBT⟩:∃BT:Int,BT=(btH b:Int):=⟨_,rfl⟩;have hus1:=fun(_:Unit)=>@knu b
 have emask:=fun(x:Int) (h0:0≤x) (h1:x<18446744073709551616)=>@jf .u64 rfl x (btH b) (by show btH b≤64;omega) h0 h1
 have eshl:bV .shl .u64 1 BT=pw:=by
  have ht:BT.toNat=btH b:=by omega
  rw[kaI rfl (by decide) (by show BT≤((64:Nat):Int);omega) (by rw[ht,Int.one_mul,←hpw];show pw<(2:Int)^64;omega),ht,Int.one_mul,hpw]
 replace hBH:=fun(_:Unit)=>hBH
 rw[←hUS,←hBT] at hidx;rw[←hpw] at emask;refine kf (jh (kg (kc kj kon ?_)))
 intro vb vc vw vtoN vofN vaddN vsubN _ _ vcutN vgd _ vln _ vsub vonto _ _ _ _ _ _ qb qc qw qtoN qofN qaddN qsubN _ _ qcutN qgd _ qln _ qsub qonto _ _ _ _ _;have hm:=kj;generalize Try.prog=P at *;generalize PRd b w cap2 X=PP at *;generalize hSG:seg b=SG at *;generalize kdH b=K at *;generalize fmH b=F at *;generalize szH b=SZ at *;generalize pkH b=PK at *;generalize rwH b=RW at *;generalize kV b (usH b)=A at *;generalize b.take (usH b)=bt at *;generalize usH b=uN at *;generalize bhH b=BH at *;generalize nmH b=NM at *;generalize btH b=bN at *;generalize hxx:b.getD 0 0=x at *;generalize hwl':w.length=wl at *;generalize hbl':b.length=bl at *;have hgd:∀i,vgd b i=b.getD i 0:=fun i=>by rw[qgd]
 have hlnq:∀l,vln l=l.length:=fun l=>by rw[qln]
 have hlnb:vln b=bl:=by simp only[qln,hbl']
 have haddq:∀a b,vaddN a b=a+b:=fun a b=>by rw[qaddN]
 have ebl:vofN bl=bI:=by rw[qofN,hbI]
 have em1:vc .lss most 0=false:=by rw[qc,km];omega
 have em2:vc .gtr most 131072=false:=by rw[qc,gtr_false];omega
 have eb0:vc .eql bI 0=false:=by rw[qc,kh];omega
 obtain⟨x4,hx4⟩:∃z,z=x / 4:=⟨_,rfl⟩;have hx4r:0≤x4∧x4<256:=by omega
 have hin:0≤F∧F<4:=by rw[hfd ()];omega
 have ea1:vb .and .u8 x 3=K:=by rw[qb,show(3:Int)=2^2-1 by decide,jf rfl 2 (by decide) hx8.1 (by show x<256;omega)];exact(hkd ()).symm
 have es1:vb .shr .u8 x 2=x4:=by rw[qb,jE (by decide),hx4];rfl
 have ea2:vb .and .u8 x4 3=F:=by rw[qb,show(3:Int)=2^2-1 by decide,jf (k:=.u8) rfl 2 (by decide) hx4r.1 hx4r.2];show x4 % 4=F;rw[hfd (),hx4]
 obtain⟨fN,hfN⟩:∃fN,fN=F.toNat:=⟨_,rfl⟩;have htF:vtoN F=fN:=by rw[qtoN,hfN]
 rw[←hfN] at hidx;cbv at hidx
 have hb1:0<bl:=by omega
 have hbz:(0:Int)<bl:=by omega
 have hlb0:0<vln b:=by rw[hlnb];exact hb1
 have hvx:SV.int .u8 (vgd b 0)=SV.int .u8 x:=by rw[hgd,hxx]
 cbv;rw[em1];cbv;rw[em2];cbv;rw[ebl,eb0];cbv;rw[haddq,hlnb,hgd,hxx,ea1,es1,ea2];refine⟨⟨Int.le_refl 0,hbz⟩,⟨hb1⟩,⟨hb1⟩,?_⟩
 refine⟨⟨Int.le_refl 0,hbz⟩,⟨hb1⟩,⟨hb1⟩,?_⟩
 apply joinL
 ·intro key;refine ka (ρ:=[]) hplain ⟨by rfl,by rfl,by rfl,by cbv⟩ ?_
  rintro v H R js ⟨rfl,rfl,rfl⟩;cbv;rw[htF,hidx];cbv;refine⟨⟨⟨hlb0⟩,hvx⟩,⟨hin⟩,⟨⟨hlb0⟩,hvx⟩,?_⟩
  exact key
 ·intro key;refine⟨⟨⟨hb1⟩,trivial⟩,?_⟩
  refine ka (ρ:=[]) hplain ⟨by rfl,by rfl,by rfl,by cbv⟩ ?_
  rintro v H R js ⟨rfl,rfl,rfl⟩;cbv;rw[htF,hidx];cbv;refine⟨⟨⟨hlb0⟩,hvx⟩,⟨hin⟩,?_⟩
  exact key
 have ege:vc .geq K 2=false:=by rw[qc,kZ];omega
 rw[ege];cbv;rw[ebl];generalize hz1:vc .lss bI US=z1;cases z1
 rotate_left
 ·rw[qc,ko] at hz1;cbv;exact⟨[0,1],.tup [.val (.slice none 0 0),.val (.slice none 0 0),.lit .i64 0,.lit .i64 10],[.ro .u8 b,.ro .u8 w],rfl,rfl,rfl,rfl,⟨rfl,rfl,trivial⟩,rfl,pbad 10 (f10a () hz1)⟩
 rw[qc,km] at hz1;have hlu:¬bI<US:=hz1;try simp only[nc] at *
 have hub:uN≤bl:=by omega
 have htU0:vtoN US=uN:=by rw[qtoN,hUS];exact Int.toNat_natCast uN
 have huc:uN≤cap:=by omega
 obtain⟨A4,hA4⟩:∃A4,A4=A / 16:=⟨_,rfl⟩;have eA4:vb .shr .u64 A 4=A4:=by rw[qb,jE (by decide),hA4];rfl
 cbv;rw[htU0];refine⟨⟨by((try simp only[nc] at *);omega),by((try simp only[nc] at *);omega)⟩,?_⟩
 refine ka (ρ:=[(0,.z)]) (hnum cap hub) ⟨by rfl,by rfl,by rfl,by cbv;exact⟨hvt hub,trivial⟩⟩ ?_
 rintro v H R js ⟨rfl,rfl,rfl⟩;cbv;rw[eA4];try simp only[nc] at *
 by_cases hU1:uN=1
 ·have eU:vc .eql US 1=true:=by rw[qc,kt];omega
  have hNM:NM=x / 8:=by rw[hnm (),if_pos hU1]
  have eNM:vb .shr .u8 x 3=NM:=by rw[qb,jE (by decide),hNM];rfl
  have ewNM:vw .u64 NM=NM:=by rw[qw];exact wrap_u64 (by omega) (by omega)
  rw[eU];cbv;rw[haddq,hlnb,hgd,hxx,eNM,ewNM];refine⟨⟨Int.le_refl 0,hbz⟩,⟨hb1⟩,⟨hb1⟩,?_⟩

  try simp only[nc] at *
  have hBT0:0≤BT:=by omega
  have ewb:vw .u64 BT=BT:=by rw[qw];exact wrap_u64 (by omega) (by omega)
  have esh:vb .shl .u64 1 BT=pw:=by rw[qb];exact eshl
  obtain⟨pm,hpm⟩:∃pm,pm=pw-1:=⟨_,rfl⟩;have esu:vb .sub .u64 pw 1=pm:=by rw[qb,hpm];exact wrap_u64 (by omega) (by omega)
  have ema:vb .and .u64 NM pm=SZ:=by rw[qb,hpm,emask NM hnr.1 (by omega),hszd ()]
  have ews:vw .i64 SZ=SZ:=by rw[qw];exact wrap_i64 (by omega) (by omega)
  have enp:vb .shr .u64 NM BT=NP:=by
   have ht:BT.toNat=bN:=by omega
   have h0:BT≤((64:Nat):Int):=by omega
   rw[qb,jE h0,ht,←hpw,hNP]
  have ewn:vw .i64 NP=NP:=by rw[qw];exact wrap_i64 (by omega) (by omega)
  rw[ewb,esh,esu,ema,ews];refine⟨⟨hBT0⟩,?_⟩
  generalize hz4:vc .gtr SZ most=z4;cases z4
  rotate_left
  ·rw[qc,gtr_true] at hz4;cbv;exact⟨[0,1],.tup [.val (.slice none 0 0),.val (.slice none 0 0),.lit .i64 0,.lit .i64 11],[.ro .u8 b,.ro .u8 w],rfl,rfl,rfl,rfl,⟨rfl,rfl,trivial⟩,rfl,pbad 11 (f11 () hlu (by omega))⟩
  rw[qc,gtr_false] at hz4;try simp only[nc] at *
  have hszm:¬most<SZ:=by omega
  cbv;rw[ewb,enp,ewn];refine⟨⟨hBT0⟩,?_⟩
  rcases(show K=0∨K=1 by omega) with hK|hK
  ·have eK0:vc .eql K 0=true:=by rw[qc,kt];omega
   rw[eK0];cbv

   try simp only[nc] at *
   have hBB:BH=SZ:=by rw[hBH ()];exact if_pos hK
   obtain⟨uI,huI⟩:∃uI,uI=US+SZ:=⟨_,rfl⟩;have euI:vb .add .i64 US SZ=uI:=by rw[qb,ku (by omega) (by omega),huI]
   replace f10b:=f10b () hlu hszm
   replace fB:=fB () hlu hszm
   rw[hBB] at f10b fB;rw[←huI] at f10b fB;rw[ebl,euI];generalize hz5:vc .lss bI uI=z5;cases z5
   rotate_left
   ·rw[qc,ko] at hz5;cbv;exact⟨[0,1],.tup [.val (.slice none 0 0),.val (.slice none 0 0),.lit .i64 0,.lit .i64 10],[.ro .u8 b,.ro .u8 w],rfl,rfl,rfl,rfl,⟨rfl,rfl,trivial⟩,rfl,pbad 10 (f10b (by omega))⟩
   rw[qc,km] at hz5;try simp only[nc] at *
   have fB:=fB hz5;clear f10b;obtain⟨nN,hnN⟩:∃nN:Nat,SZ=(nN:Int):=⟨(SZ:Int).toNat,by omega⟩;have htB:(SZ:Int).toNat=nN:=by rw[hnN];exact Int.toNat_natCast nN
   rw[htB] at fB;have htU:vtoN US=uN:=by rw[qtoN,hUS];exact Int.toNat_natCast uN
   obtain⟨eN,heN⟩:∃eN:Nat,eN=uN+nN:=⟨_,rfl⟩;have hue:uI=(eN:Int):=by omega
   have htu:vtoN uI=eN:=by rw[qtoN,hue];exact Int.toNat_natCast eN
   have hsb:vsubN eN uN=nN:=by rw[qsubN];simp only;omega
   obtain⟨o1,ho1⟩:∃o1,o1=vcutN 0 uN eN:=⟨_,rfl⟩;have ho:o1=uN∨nN=0∧o1≤bl:=by
    have e:o1=if eN=uN then 0 else 0+uN:=by rw[ho1,qcutN]
    by_cases h:eN=uN
    ·rw[if_pos h] at e;right;constructor<;>omega
    ·rw[if_neg h] at e;left;omega
   have hebl:eN≤bl:=by omega
   have hsl:=hseg uN nN (by omega);have hv1:=hvs uN nN o1 (by omega) ho;have hsm1:=hsm uN nN;have hsd1:=hsegd uN nN;generalize hsg:SG uN nN=sg at *

   have fC:X=.keep sg uI:=by rw[fB];unfold kb2;rw[if_pos hK]
   clear fB;have hvs1:vsub b o1 nN=sg:=by
    rw[qsub,hsd1];rcases ho with rfl|⟨h,_⟩
    ·rfl
    ·simp only[h,List.take_zero]
   have ha0:vaddN 0 nN=nN:=by rw[haddq,Nat.zero_add]
   have hon:∀l,vonto [] 0 l=l:=fun l=>by rw[qonto];simp
   cbv;rw[htU,htu,←ho1,hsb];refine⟨⟨by((try simp only[nc] at *);omega),by((try simp only[nc] at *);omega)⟩,⟨by((try simp only[nc] at *);omega),by((try simp only[nc] at *);omega)⟩,⟨by((try simp only[nc] at *);omega),by((try simp only[nc] at *);omega)⟩,?_⟩
   rw[eK0];cbv;refine⟨⟨by rw[haddq,hlnb];((try simp only[nc] at *);omega)⟩,⟨Nat.zero_le _⟩,⟨Nat.zero_le _⟩,⟨by rw[haddq];((try simp only[nc] at *);omega)⟩,?_⟩
   intro c1 js1 hle;have hle2:nN≤c1:=by have h:vaddN 0 nN≤c1:=hle.out;rw[haddq,Nat.zero_add] at h;exact h
   cbv;rw[hvs1,hon,ha0];subst hsl;exact⟨[0,1,3],.tup [.slice 2 .z 1 sg.length c1,.slice 1 .z 1 wl cap2,.int .i64 uI,.lit .i64 0],[.ro .u8 b,.ro .u8 w,.buf 5 .u8 sg c1],rfl,rfl,rfl,rfl,⟨rfl,rfl,rfl,trivial⟩,rfl,pkeep sg uI c1 hle2 fC⟩
  ·have eK0:vc .eql K 0=false:=by rw[qc,kh];omega
   have eK1:vc .eql K 1=true:=by rw[qc,kt];omega
   rw[eK0];cbv;rw[eK1];cbv

   try simp only[nc] at *
   have hBB:BH=1:=by rw[hBH ()];rw[if_neg (by omega),if_pos hK]
   obtain⟨uI,huI⟩:∃uI,uI=US+1:=⟨_,rfl⟩;have euI:vb .add .i64 US 1=uI:=by rw[qb,ku (by omega) (by omega),huI]
   replace f10b:=f10b () hlu hszm
   replace fB:=fB () hlu hszm
   rw[hBB] at f10b fB;rw[←huI] at f10b fB;rw[ebl,euI];generalize hz5:vc .lss bI uI=z5;cases z5
   rotate_left
   ·rw[qc,ko] at hz5;cbv;exact⟨[0,1],.tup [.val (.slice none 0 0),.val (.slice none 0 0),.lit .i64 0,.lit .i64 10],[.ro .u8 b,.ro .u8 w],rfl,rfl,rfl,rfl,⟨rfl,rfl,trivial⟩,rfl,pbad 10 (f10b (by omega))⟩
   rw[qc,km] at hz5;try simp only[nc] at *
   have fB:=fB hz5;clear f10b;obtain⟨nN,hnN⟩:∃nN:Nat,1=(nN:Int):=⟨(1:Int).toNat,by omega⟩;have htB:(1:Int).toNat=nN:=by rw[hnN];exact Int.toNat_natCast nN
   rw[htB] at fB;have htU:vtoN US=uN:=by rw[qtoN,hUS];exact Int.toNat_natCast uN
   obtain⟨eN,heN⟩:∃eN:Nat,eN=uN+nN:=⟨_,rfl⟩;have hue:uI=(eN:Int):=by omega
   have htu:vtoN uI=eN:=by rw[qtoN,hue];exact Int.toNat_natCast eN
   have hsb:vsubN eN uN=nN:=by rw[qsubN];simp only;omega
   obtain⟨o1,ho1⟩:∃o1,o1=vcutN 0 uN eN:=⟨_,rfl⟩;have ho:o1=uN∨nN=0∧o1≤bl:=by
    have e:o1=if eN=uN then 0 else 0+uN:=by rw[ho1,qcutN]
    by_cases h:eN=uN
    ·rw[if_pos h] at e;right;constructor<;>omega
    ·rw[if_neg h] at e;left;omega
   have hebl:eN≤bl:=by omega
   have hsl:=hseg uN nN (by omega);have hv1:=hvs uN nN o1 (by omega) ho;have hsm1:=hsm uN nN;have hsd1:=hsegd uN nN;generalize hsg:SG uN nN=sg at *

   obtain⟨y,hy⟩:∃y,y=sg.getD 0 0:=⟨_,rfl⟩;obtain⟨zN,hzN⟩:∃zN,zN=SZ.toNat:=⟨_,rfl⟩;have fC:X=.rep y zN uI:=by rw[fB];unfold kb2;rw[if_neg (by omega),if_pos hK,hy,hzN]
   clear fB;have hn1:nN=1:=by omega
   have hsg1:sg=[y]:=by
    rw[hn1] at hsl;match sg,hsl with
    |[z],_=>rw[hy];rfl
   have hy8:kF y:=hsm1 y (by rw[hsg1];exact List.mem_singleton.2 rfl);have hrep:=hrepA y nN SZ hy8 ⟨hsz0,by omega⟩;rw[←hzN] at hrep;subst hsg1;subst hn1;cbv;rw[htU,htu,←ho1,hsb];refine⟨⟨by((try simp only[nc] at *);omega),by((try simp only[nc] at *);omega)⟩,⟨by((try simp only[nc] at *);omega),by((try simp only[nc] at *);omega)⟩,⟨by((try simp only[nc] at *);omega),by((try simp only[nc] at *);omega)⟩,?_⟩
   rw[eK0];cbv;rw[eK1];cbv;refine ka (ρ:=[(0,.n o1)]) hrep ⟨by rfl,by rfl,by rfl,by cbv;exact⟨hv1,trivial⟩⟩ ?_
   rintro v H R js4 ⟨rfl,L,c,hL1,hL2,rfl,rfl,hLc⟩;cbv;exact⟨[0,1,3],.tup [.slice 2 .z 1 zN c,.slice 1 .z 1 wl cap2,.int .i64 uI,.lit .i64 0],[.ro .u8 b,.ro .u8 w,.ints 5 .u8 L],rfl,rfl,rfl,rfl,⟨rfl,rfl,rfl,trivial⟩,rfl,prep y zN uI L c hLc hL1 hL2 fC⟩
 ·have eU:vc .eql US 1=false:=by rw[qc,kh];omega
  obtain rfl:NM=A4:=by rw[hnm (),if_neg hU1,hA4]
  rw[eU];cbv

  try simp only[nc] at *
  have hBT0:0≤BT:=by omega
  have ewb:vw .u64 BT=BT:=by rw[qw];exact wrap_u64 (by omega) (by omega)
  have esh:vb .shl .u64 1 BT=pw:=by rw[qb];exact eshl
  obtain⟨pm,hpm⟩:∃pm,pm=pw-1:=⟨_,rfl⟩;have esu:vb .sub .u64 pw 1=pm:=by rw[qb,hpm];exact wrap_u64 (by omega) (by omega)
  have ema:vb .and .u64 NM pm=SZ:=by rw[qb,hpm,emask NM hnr.1 (by omega),hszd ()]
  have ews:vw .i64 SZ=SZ:=by rw[qw];exact wrap_i64 (by omega) (by omega)
  have enp:vb .shr .u64 NM BT=NP:=by
   have ht:BT.toNat=bN:=by omega
   have h0:BT≤((64:Nat):Int):=by omega
   rw[qb,jE h0,ht,←hpw,hNP]
  have ewn:vw .i64 NP=NP:=by rw[qw];exact wrap_i64 (by omega) (by omega)
  rw[ewb,esh,esu,ema,ews];refine⟨⟨hBT0⟩,?_⟩
  generalize hz4:vc .gtr SZ most=z4;cases z4
  rotate_left
  ·rw[qc,gtr_true] at hz4;cbv;exact⟨[0,1],.tup [.val (.slice none 0 0),.val (.slice none 0 0),.lit .i64 0,.lit .i64 11],[.ro .u8 b,.ro .u8 w],rfl,rfl,rfl,rfl,⟨rfl,rfl,trivial⟩,rfl,pbad 11 (f11 () hlu (by omega))⟩
  rw[qc,gtr_false] at hz4;try simp only[nc] at *
  have hszm:¬most<SZ:=by omega
  cbv;rw[ewb,enp,ewn];refine⟨⟨hBT0⟩,?_⟩
  rcases(show K=0∨K=1 by omega) with hK|hK
  ·have eK0:vc .eql K 0=true:=by rw[qc,kt];omega
   rw[eK0];cbv

   try simp only[nc] at *
   have hBB:BH=SZ:=by rw[hBH ()];exact if_pos hK
   obtain⟨uI,huI⟩:∃uI,uI=US+SZ:=⟨_,rfl⟩;have euI:vb .add .i64 US SZ=uI:=by rw[qb,ku (by omega) (by omega),huI]
   replace f10b:=f10b () hlu hszm
   replace fB:=fB () hlu hszm
   rw[hBB] at f10b fB;rw[←huI] at f10b fB;rw[ebl,euI];generalize hz5:vc .lss bI uI=z5;cases z5
   rotate_left
   ·rw[qc,ko] at hz5;cbv;exact⟨[0,1],.tup [.val (.slice none 0 0),.val (.slice none 0 0),.lit .i64 0,.lit .i64 10],[.ro .u8 b,.ro .u8 w],rfl,rfl,rfl,rfl,⟨rfl,rfl,trivial⟩,rfl,pbad 10 (f10b (by omega))⟩
   rw[qc,km] at hz5;try simp only[nc] at *
   have fB:=fB hz5;clear f10b;obtain⟨nN,hnN⟩:∃nN:Nat,SZ=(nN:Int):=⟨(SZ:Int).toNat,by omega⟩;have htB:(SZ:Int).toNat=nN:=by rw[hnN];exact Int.toNat_natCast nN
   rw[htB] at fB;have htU:vtoN US=uN:=by rw[qtoN,hUS];exact Int.toNat_natCast uN
   obtain⟨eN,heN⟩:∃eN:Nat,eN=uN+nN:=⟨_,rfl⟩;have hue:uI=(eN:Int):=by omega
   have htu:vtoN uI=eN:=by rw[qtoN,hue];exact Int.toNat_natCast eN
   have hsb:vsubN eN uN=nN:=by rw[qsubN];simp only;omega
   obtain⟨o1,ho1⟩:∃o1,o1=vcutN 0 uN eN:=⟨_,rfl⟩;have ho:o1=uN∨nN=0∧o1≤bl:=by
    have e:o1=if eN=uN then 0 else 0+uN:=by rw[ho1,qcutN]
    by_cases h:eN=uN
    ·rw[if_pos h] at e;right;constructor<;>omega
    ·rw[if_neg h] at e;left;omega
   have hebl:eN≤bl:=by omega
   have hsl:=hseg uN nN (by omega);have hv1:=hvs uN nN o1 (by omega) ho;have hsm1:=hsm uN nN;have hsd1:=hsegd uN nN;generalize hsg:SG uN nN=sg at *

   have fC:X=.keep sg uI:=by rw[fB];unfold kb2;rw[if_pos hK]
   clear fB;have hvs1:vsub b o1 nN=sg:=by
    rw[qsub,hsd1];rcases ho with rfl|⟨h,_⟩
    ·rfl
    ·simp only[h,List.take_zero]
   have ha0:vaddN 0 nN=nN:=by rw[haddq,Nat.zero_add]
   have hon:∀l,vonto [] 0 l=l:=fun l=>by rw[qonto];simp
   cbv;rw[htU,htu,←ho1,hsb];refine⟨⟨by((try simp only[nc] at *);omega),by((try simp only[nc] at *);omega)⟩,⟨by((try simp only[nc] at *);omega),by((try simp only[nc] at *);omega)⟩,⟨by((try simp only[nc] at *);omega),by((try simp only[nc] at *);omega)⟩,?_⟩
   rw[eK0];cbv;refine⟨⟨by rw[haddq,hlnb];((try simp only[nc] at *);omega)⟩,⟨Nat.zero_le _⟩,⟨Nat.zero_le _⟩,⟨by rw[haddq];((try simp only[nc] at *);omega)⟩,?_⟩
   intro c1 js1 hle;have hle2:nN≤c1:=by have h:vaddN 0 nN≤c1:=hle.out;rw[haddq,Nat.zero_add] at h;exact h
   cbv;rw[hvs1,hon,ha0];subst hsl;exact⟨[0,1,3],.tup [.slice 2 .z 1 sg.length c1,.slice 1 .z 1 wl cap2,.int .i64 uI,.lit .i64 0],[.ro .u8 b,.ro .u8 w,.buf 5 .u8 sg c1],rfl,rfl,rfl,rfl,⟨rfl,rfl,rfl,trivial⟩,rfl,pkeep sg uI c1 hle2 fC⟩
  ·have eK0:vc .eql K 0=false:=by rw[qc,kh];omega
   have eK1:vc .eql K 1=true:=by rw[qc,kt];omega
   rw[eK0];cbv;rw[eK1];cbv

   try simp only[nc] at *
   have hBB:BH=1:=by rw[hBH ()];rw[if_neg (by omega),if_pos hK]
   obtain⟨uI,huI⟩:∃uI,uI=US+1:=⟨_,rfl⟩;have euI:vb .add .i64 US 1=uI:=by rw[qb,ku (by omega) (by omega),huI]
   replace f10b:=f10b () hlu hszm
   replace fB:=fB () hlu hszm
   rw[hBB] at f10b fB;rw[←huI] at f10b fB;rw[ebl,euI];generalize hz5:vc .lss bI uI=z5;cases z5
   rotate_left
   ·rw[qc,ko] at hz5;cbv;exact⟨[0,1],.tup [.val (.slice none 0 0),.val (.slice none 0 0),.lit .i64 0,.lit .i64 10],[.ro .u8 b,.ro .u8 w],rfl,rfl,rfl,rfl,⟨rfl,rfl,trivial⟩,rfl,pbad 10 (f10b (by omega))⟩
   rw[qc,km] at hz5;try simp only[nc] at *
   have fB:=fB hz5;clear f10b;obtain⟨nN,hnN⟩:∃nN:Nat,1=(nN:Int):=⟨(1:Int).toNat,by omega⟩;have htB:(1:Int).toNat=nN:=by rw[hnN];exact Int.toNat_natCast nN
   rw[htB] at fB;have htU:vtoN US=uN:=by rw[qtoN,hUS];exact Int.toNat_natCast uN
   obtain⟨eN,heN⟩:∃eN:Nat,eN=uN+nN:=⟨_,rfl⟩;have hue:uI=(eN:Int):=by omega
   have htu:vtoN uI=eN:=by rw[qtoN,hue];exact Int.toNat_natCast eN
   have hsb:vsubN eN uN=nN:=by rw[qsubN];simp only;omega
   obtain⟨o1,ho1⟩:∃o1,o1=vcutN 0 uN eN:=⟨_,rfl⟩;have ho:o1=uN∨nN=0∧o1≤bl:=by
    have e:o1=if eN=uN then 0 else 0+uN:=by rw[ho1,qcutN]
    by_cases h:eN=uN
    ·rw[if_pos h] at e;right;constructor<;>omega
    ·rw[if_neg h] at e;left;omega
   have hebl:eN≤bl:=by omega
   have hsl:=hseg uN nN (by omega);have hv1:=hvs uN nN o1 (by omega) ho;have hsm1:=hsm uN nN;have hsd1:=hsegd uN nN;generalize hsg:SG uN nN=sg at *

   obtain⟨y,hy⟩:∃y,y=sg.getD 0 0:=⟨_,rfl⟩;obtain⟨zN,hzN⟩:∃zN,zN=SZ.toNat:=⟨_,rfl⟩;have fC:X=.rep y zN uI:=by rw[fB];unfold kb2;rw[if_neg (by omega),if_pos hK,hy,hzN]
   clear fB;have hn1:nN=1:=by omega
   have hsg1:sg=[y]:=by
    rw[hn1] at hsl;match sg,hsl with
    |[z],_=>rw[hy];rfl
   have hy8:kF y:=hsm1 y (by rw[hsg1];exact List.mem_singleton.2 rfl);have hrep:=hrepA y nN SZ hy8 ⟨hsz0,by omega⟩;rw[←hzN] at hrep;subst hsg1;subst hn1;cbv;rw[htU,htu,←ho1,hsb];refine⟨⟨by((try simp only[nc] at *);omega),by((try simp only[nc] at *);omega)⟩,⟨by((try simp only[nc] at *);omega),by((try simp only[nc] at *);omega)⟩,⟨by((try simp only[nc] at *);omega),by((try simp only[nc] at *);omega)⟩,?_⟩
   rw[eK0];cbv;rw[eK1];cbv;refine ka (ρ:=[(0,.n o1)]) hrep ⟨by rfl,by rfl,by rfl,by cbv;exact⟨hv1,trivial⟩⟩ ?_
   rintro v H R js4 ⟨rfl,L,c,hL1,hL2,rfl,rfl,hLc⟩;cbv;exact⟨[0,1,3],.tup [.slice 2 .z 1 zN c,.slice 1 .z 1 wl cap2,.int .i64 uI,.lit .i64 0],[.ro .u8 b,.ro .u8 w,.ints 5 .u8 L],rfl,rfl,rfl,rfl,⟨rfl,rfl,rfl,trivial⟩,rfl,prep y zN uI L c hLc hL1 hL2 fC⟩

theorem kqq (b w:List Int) (cap cap2:Nat) (most:Int) (hb:∀c∈b,kF c) (hw8:∀c∈w,kF c) (hbl:b.length≤140737488355328) (hwl:w.length≤140737488355328) (hcap:b.length≤cap) (hcm:cap≤9223372036854775807) (hk:¬kdH b<2) (hb0:¬b.length=0) (hmo:¬(most<0∨131072<most)) :
  Con Try.prog 23 [.slice 0 .z 1 b.length cap,.slice 1 .z 1 w.length cap2,.int .i64 most] [.ro .u8 b,.ro .u8 w] (fun v H R=>R=[]∧PRd b w cap2 (RdL b w most) v H):=by
 obtain⟨f2,f10,f10a,f11,f10b,fB⟩:=kck b w most;have hk4:=kfH hb;have hsz0:=kjI b;have hpk:=kdU hb;have hus:=khc b;have hBH:bhH b=if kdH b=0 then szH b else if kdH b=1 then 1 else pkH b:=rfl
 obtain⟨X,hX⟩:∃X,X=RdL b w most:=⟨_,rfl⟩;have pbad:∀e,X=.bad e→PRd b w cap2 X (.tup [.val (.slice none 0 0),.val (.slice none 0 0),.int .i64 0,.int .i64 e]) [.ro .u8 b,.ro .u8 w]:=by
  intro e h;rw[h];exact⟨rfl,rfl⟩
 have pkeep:∀L u c,L.length≤c→X=.keep L u→PRd b w cap2 X (.tup [.slice 2 .z 1 L.length c,.slice 1 .z 1 w.length cap2,.int .i64 u,.int .i64 0]) [.ro .u8 b,.ro .u8 w,.buf 5 .u8 L c]:=by
  intro L u c h0 h;rw[h];exact⟨c,h0,rfl,rfl⟩
 have prep:∀x n u L c,n≤c→n≤L.length→L.take n=List.replicate n x→X=.rep x n u→PRd b w cap2 X (.tup [.slice 2 .z 1 n c,.slice 1 .z 1 w.length cap2,.int .i64 u,.int .i64 0]) [.ro .u8 b,.ro .u8 w,.ints 5 .u8 L]:=by
  intro x n u L c h0 h1 h2 h;rw[h];exact⟨L,c,h0,h1,h2,rfl,rfl⟩
 have pown:∀L l u c c3,L.length≤c→X=.own L l u→PRd b w cap2 X (.tup [.slice 2 .z 1 L.length c,.slice 3 .z 1 l.length c3,.int .i64 u,.int .i64 0]) [.ro .u8 b,.ro .u8 w,.buf 5 .u8 L c,.buf 5 .u8 l c3]:=by
  intro L l u c c3 h0 h;rw[h];exact⟨c,c3,h0,rfl,rfl⟩
 obtain⟨US,hUS⟩:∃US:Int,US=(usH b:Int):=⟨_,rfl⟩;obtain⟨bI,hbI⟩:∃bI:Int,bI=(b.length:Int):=⟨_,rfl⟩;rw[←hUS,←hbI] at f10a f11 f10b fB;rw[←hX] at f2 f10 f10a f11 f10b fB ⊢
 have hrowsA:=kiL;have hrdA:=kku;have hrepA:=kcL;have hseg:=fun o n h=>@kae b o n h
 have hvs:=fun o n x h hx=>@kfE b o n x h hx
 have hsm:=fun o n=>@kdi b o n kF hb
 have hsegd:∀o n,seg b o n=(b.drop o).take n:=fun _ _=>rfl
 replace f10a:=fun(_:Unit)=>f10a hmo hb0
 replace f11:=fun(_:Unit)=>f11 hmo hb0
 replace f10b:=fun(_:Unit)=>f10b hmo hb0
 replace fB:=fun(_:Unit)=>fB hmo hb0
 clear f2 f10;have hplain:=kgx;have hpacked:=kfD;have hidx:=kjJ hb hk;have hpko:=krz hk;obtain⟨p0,q0,r0,hidx0⟩:=koB hb;have hx8:=jB hb 0;unfold kF at hx8;have hkd:∀_:Unit,kdH b=b.getD 0 0 % 4:=fun _=>rfl
 have hfd:∀_:Unit,fmH b=b.getD 0 0 / 4 % 4:=fun _=>rfl
 have hbt:=kns b;have hnr:=kgy hb;have hAr:=kY hb (usH b);have hnum:=fun c h=>kem b (usH b) c hb h (by omega)
 have hvt:=view_take b (usH b);have hA40:kV b (usH b)<2^40:=Int.lt_of_lt_of_le hAr.2 (by
  have:=Nat.pow_le_pow_right (n:=2) (by decide) (show 8*usH b≤40 by omega)
  exact_mod_cast this)
 have hnm:∀_:Unit,nmH b=if usH b=1 then b.getD 0 0 / 8 else kV b (usH b) / 16:=fun _=>rfl
 have hszd:∀_:Unit,szH b=nmH b % 2^btH b:=fun _=>rfl
 obtain⟨pw,hpw⟩:∃pw:Int,pw=2^btH b:=⟨_,rfl⟩;have hpw1:1≤pw:=by rw[hpw];exact Int.pow_pos (by decide)
 have hpw2:pw≤2^20:=by
  rw[hpw];have:=Nat.pow_le_pow_right (n:=2) (by decide) (show btH b≤20 by omega)
  exact_mod_cast this
 rw[←hpw] at hszd;have hszl:szH b<pw:=by rw[hszd ()];exact Int.emod_lt_of_pos _ (by omega)
 obtain⟨NP,hNP⟩:∃NP:Int,NP=nmH b / pw:=⟨_,rfl⟩;have hNP0:0≤NP∧NP<2^40:=by
  rw[hNP];exact⟨Int.ediv_nonneg hnr.1 (by omega),Int.lt_of_le_of_lt (Int.ediv_le_self _ hnr.1) hnr.2⟩
 rw[show(2:Int)^40=1099511627776 by decide] at hA40 hnr hNP0;rw[show(2:Int)^20=1048576 by decide] at hpw2;obtain⟨BT,hBT⟩:∃BT:Int,BT=(btH b:Int):=⟨_,rfl⟩;have hus1:=fun(_:Unit)=>@knu b
 have emask:=fun(x:Int) (h0:0≤x) (h1:x<18446744073709551616)=>@jf .u64 rfl x (btH b) (by show btH b≤64;omega) h0 h1
 have eshl:bV .shl .u64 1 BT=pw:=by
  have ht:BT.toNat=btH b:=by omega
  rw[kaI rfl (by decide) (by show BT≤((64:Nat):Int);omega) (by rw[ht,Int.one_mul,←hpw];show pw<(2:Int)^64;omega),ht,Int.one_mul,hpw]
 replace hBH:=fun(_:Unit)=>hBH
 rw[←hUS,←hBT] at hidx;rw[←hpw] at emask;refine kf (jh (kg (kc kj kon ?_)))
 intro vb vc vw vtoN vofN vaddN vsubN _ _ vcutN vgd _ vln _ _ _ _ _ _ _ _ _ qb qc qw qtoN qofN qaddN qsubN _ _ qcutN qgd _ qln _ _ _ _ _ _ _ _;have hm:=kj;generalize Try.prog=P at *;generalize PRd b w cap2 X=PP at *;generalize hSG:seg b=SG at *;generalize kdH b=K at *;generalize fmH b=F at *;generalize szH b=SZ at *;generalize pkH b=PK at *;generalize rwH b=RW at *;generalize kV b (usH b)=A at *;generalize b.take (usH b)=bt at *;generalize usH b=uN at *;generalize bhH b=BH at *;generalize nmH b=NM at *;generalize btH b=bN at *;generalize hxx:b.getD 0 0=x at *;generalize hwl':w.length=wl at *;generalize hbl':b.length=bl at *;have hgd:∀i,vgd b i=b.getD i 0:=fun i=>by rw[qgd]
 have hlnq:∀l,vln l=l.length:=fun l=>by rw[qln]
 have hlnb:vln b=bl:=by simp only[qln,hbl']
 have haddq:∀a b,vaddN a b=a+b:=fun a b=>by rw[qaddN]
 have ebl:vofN bl=bI:=by rw[qofN,hbI]
 have em1:vc .lss most 0=false:=by rw[qc,km];omega
 have em2:vc .gtr most 131072=false:=by rw[qc,gtr_false];omega
 have eb0:vc .eql bI 0=false:=by rw[qc,kh];omega
 obtain⟨x4,hx4⟩:∃z,z=x / 4:=⟨_,rfl⟩;have hx4r:0≤x4∧x4<256:=by omega
 have hin:0≤F∧F<4:=by rw[hfd ()];omega
 have ea1:vb .and .u8 x 3=K:=by rw[qb,show(3:Int)=2^2-1 by decide,jf rfl 2 (by decide) hx8.1 (by show x<256;omega)];exact(hkd ()).symm
 have es1:vb .shr .u8 x 2=x4:=by rw[qb,jE (by decide),hx4];rfl
 have ea2:vb .and .u8 x4 3=F:=by rw[qb,show(3:Int)=2^2-1 by decide,jf (k:=.u8) rfl 2 (by decide) hx4r.1 hx4r.2];show x4 % 4=F;rw[hfd (),hx4]
 obtain⟨fN,hfN⟩:∃fN,fN=F.toNat:=⟨_,rfl⟩;have htF:vtoN F=fN:=by rw[qtoN,hfN]
 rw[←hfN] at hidx hidx0;cbv at hidx
 cbv at hidx0
 have hb1:0<bl:=by omega
 have hbz:(0:Int)<bl:=by omega
 have hlb0:0<vln b:=by rw[hlnb];exact hb1
 have hvx:SV.int .u8 (vgd b 0)=SV.int .u8 x:=by rw[hgd,hxx]
 cbv;rw[em1];cbv;rw[em2];cbv;rw[ebl,eb0];cbv;rw[haddq,hlnb,hgd,hxx,ea1,es1,ea2];refine⟨⟨Int.le_refl 0,hbz⟩,⟨hb1⟩,⟨hb1⟩,?_⟩
 refine⟨⟨Int.le_refl 0,hbz⟩,⟨hb1⟩,⟨hb1⟩,?_⟩
 apply joinL
 ·intro key;refine ka (ρ:=[]) hplain ⟨by rfl,by rfl,by rfl,by cbv⟩ ?_
  rintro v H R js ⟨rfl,rfl,rfl⟩;cbv;rw[htF,hidx0];cbv;refine⟨⟨⟨hlb0⟩,hvx⟩,⟨hin⟩,⟨⟨hlb0⟩,hvx⟩,?_⟩
  exact key
 ·intro key;refine⟨⟨⟨hb1⟩,trivial⟩,?_⟩
  refine ka (ρ:=[]) hplain ⟨by rfl,by rfl,by rfl,by cbv⟩ ?_
  rintro v H R js ⟨rfl,rfl,rfl⟩;cbv;rw[htF,hidx0];cbv;refine⟨⟨⟨hlb0⟩,hvx⟩,⟨hin⟩,?_⟩
  exact key
 have ege:vc .geq K 2=true:=by rw[qc,jm];omega
 rw[ege];cbv;rw[haddq,hlnb,hgd,hxx,es1,ea2];refine⟨⟨Int.le_refl 0,hbz⟩,⟨hb1⟩,⟨hb1⟩,?_⟩
 refine ka (ρ:=[]) hpacked ⟨by rfl,by rfl,by rfl,by cbv⟩ ?_
 rintro v H R js ⟨rfl,rfl,rfl⟩;cbv;rw[htF,hidx];cbv;refine⟨⟨⟨hlb0⟩,hvx⟩,⟨hin⟩,?_⟩
 rw[ebl];generalize hz1:vc .lss bI US=z1;cases z1
 rotate_left
 ·rw[qc,ko] at hz1;cbv;exact⟨[0,1],.tup [.val (.slice none 0 0),.val (.slice none 0 0),.lit .i64 0,.lit .i64 10],[.ro .u8 b,.ro .u8 w],rfl,rfl,rfl,rfl,⟨rfl,rfl,trivial⟩,rfl,pbad 10 (f10a () hz1)⟩
 rw[qc,km] at hz1;have hlu:¬bI<US:=hz1;try simp only[nc] at *
 have hub:uN≤bl:=by omega
 have htU0:vtoN US=uN:=by rw[qtoN,hUS];exact Int.toNat_natCast uN
 have huc:uN≤cap:=by omega
 obtain⟨A4,hA4⟩:∃A4,A4=A / 16:=⟨_,rfl⟩;have eA4:vb .shr .u64 A 4=A4:=by rw[qb,jE (by decide),hA4];rfl
 cbv;rw[htU0];refine⟨⟨by((try simp only[nc] at *);omega),by((try simp only[nc] at *);omega)⟩,?_⟩
 refine ka (ρ:=[(0,.z)]) (hnum cap hub) ⟨by rfl,by rfl,by rfl,by cbv;exact⟨hvt hub,trivial⟩⟩ ?_
 rintro v H R js ⟨rfl,rfl,rfl⟩;cbv;rw[eA4];try simp only[nc] at *
 have hU1:¬uN=1:=fun h=>hk (hus1 () h)
 have eU:vc .eql US 1=false:=by rw[qc,kh];omega
 obtain rfl:NM=A4:=by rw[hnm (),if_neg hU1,hA4]
 obtain rfl:NP=PK:=by rw[hpko,hNP,hpw]
 rw[eU];cbv

 try simp only[nc] at *
 have hBT0:0≤BT:=by omega
 have ewb:vw .u64 BT=BT:=by rw[qw];exact wrap_u64 (by omega) (by omega)
 have esh:vb .shl .u64 1 BT=pw:=by rw[qb];exact eshl
 obtain⟨pm,hpm⟩:∃pm,pm=pw-1:=⟨_,rfl⟩;have esu:vb .sub .u64 pw 1=pm:=by rw[qb,hpm];exact wrap_u64 (by omega) (by omega)
 have ema:vb .and .u64 NM pm=SZ:=by rw[qb,hpm,emask NM hnr.1 (by omega),hszd ()]
 have ews:vw .i64 SZ=SZ:=by rw[qw];exact wrap_i64 (by omega) (by omega)
 have enp:vb .shr .u64 NM BT=NP:=by
  have ht:BT.toNat=bN:=by omega
  have h0:BT≤((64:Nat):Int):=by omega
  rw[qb,jE h0,ht,←hpw,hNP]
 have ewn:vw .i64 NP=NP:=by rw[qw];exact wrap_i64 (by omega) (by omega)
 rw[ewb,esh,esu,ema,ews];refine⟨⟨hBT0⟩,?_⟩
 generalize hz4:vc .gtr SZ most=z4;cases z4
 rotate_left
 ·rw[qc,gtr_true] at hz4;cbv;exact⟨[0,1],.tup [.val (.slice none 0 0),.val (.slice none 0 0),.lit .i64 0,.lit .i64 11],[.ro .u8 b,.ro .u8 w],rfl,rfl,rfl,rfl,⟨rfl,rfl,trivial⟩,rfl,pbad 11 (f11 () hlu (by omega))⟩
 rw[qc,gtr_false] at hz4;try simp only[nc] at *
 have hszm:¬most<SZ:=by omega
 cbv;rw[ewb,enp,ewn];refine⟨⟨hBT0⟩,?_⟩
 rcases(show K=2∨K=3 by omega) with hK|hK
 ·have eK0:vc .eql K 0=false:=by rw[qc,kh];omega
  have eK1:vc .eql K 1=false:=by rw[qc,kh];omega
  have eK2:vc .eql K 2=true:=by rw[qc,kt];omega
  rw[eK0];cbv;rw[eK1];cbv

  try simp only[nc] at *
  have hBB:BH=NP:=by rw[hBH ()];rw[if_neg (by omega),if_neg (by omega)]
  obtain⟨uI,huI⟩:∃uI,uI=US+NP:=⟨_,rfl⟩;have euI:vb .add .i64 US NP=uI:=by rw[qb,ku (by omega) (by omega),huI]
  replace f10b:=f10b () hlu hszm
  replace fB:=fB () hlu hszm
  rw[hBB] at f10b fB;rw[←huI] at f10b fB;rw[ebl,euI];generalize hz5:vc .lss bI uI=z5;cases z5
  rotate_left
  ·rw[qc,ko] at hz5;cbv;exact⟨[0,1],.tup [.val (.slice none 0 0),.val (.slice none 0 0),.lit .i64 0,.lit .i64 10],[.ro .u8 b,.ro .u8 w],rfl,rfl,rfl,rfl,⟨rfl,rfl,trivial⟩,rfl,pbad 10 (f10b (by omega))⟩
  rw[qc,km] at hz5;try simp only[nc] at *
  have fB:=fB hz5;clear f10b;obtain⟨nN,hnN⟩:∃nN:Nat,NP=(nN:Int):=⟨(NP:Int).toNat,by omega⟩;have htB:(NP:Int).toNat=nN:=by rw[hnN];exact Int.toNat_natCast nN
  rw[htB] at fB;have htU:vtoN US=uN:=by rw[qtoN,hUS];exact Int.toNat_natCast uN
  obtain⟨eN,heN⟩:∃eN:Nat,eN=uN+nN:=⟨_,rfl⟩;have hue:uI=(eN:Int):=by omega
  have htu:vtoN uI=eN:=by rw[qtoN,hue];exact Int.toNat_natCast eN
  have hsb:vsubN eN uN=nN:=by rw[qsubN];simp only;omega
  obtain⟨o1,ho1⟩:∃o1,o1=vcutN 0 uN eN:=⟨_,rfl⟩;have ho:o1=uN∨nN=0∧o1≤bl:=by
   have e:o1=if eN=uN then 0 else 0+uN:=by rw[ho1,qcutN]
   by_cases h:eN=uN
   ·rw[if_pos h] at e;right;constructor<;>omega
   ·rw[if_neg h] at e;left;omega
  have hebl:eN≤bl:=by omega
  have hsl:=hseg uN nN (by omega);have hv1:=hvs uN nN o1 (by omega) ho;have hsm1:=hsm uN nN;have hsd1:=hsegd uN nN;generalize hsg:SG uN nN=sg at *

  have fBn:rdw sg=none→X=.bad 11:=fun h=>by rw[fB];unfold kb2;rw[if_neg (by omega),if_neg (by omega),if_pos hK,h]
  have fBl:∀l,rdw sg=some l→X=owned l uI (qZ l (sg.drop (1+hnW sg).toNat) SZ RW):=fun l h=>by rw[fB];unfold kb2;rw[if_neg (by omega),if_neg (by omega),if_pos hK,h]
  clear fB;have hrd:=hrdA sg nN hsm1 (by omega) (by omega) (by omega);have hspec:=fun l (h:rdw sg=some l)=>kiP h
  have hnn:=kqo (jJ hsm1);have hvd:=fun h x hh hx=>@kfS b uN nN h x (by omega) hh hx
  rw[hSG,hsg,hbl'] at hvd;have hu8:=fun l h=>@knq 256 sg l (jJ hsm1) h
  have hsh:∀h:¬jQ sg,1+hnW sg≤nN:=by
   intro h;unfold jQ at h;rw[hsl] at h;by_cases h2:(nN:Int)-1<hnW sg
   ·exact(h (.inr h2)).elim
   ·omega
  obtain⟨hI,hhI⟩:∃hI,hI=1+hnW sg:=⟨_,rfl⟩;rw[←hhI] at fBl hrd hsh;obtain⟨hN,hhN⟩:∃hN:Nat,hI=hN:=⟨hI.toNat,by omega⟩;have hthN:hI.toNat=hN:=by rw[hhN];exact Int.toNat_natCast hN
  rw[hthN] at fBl;rw[hsl] at hrd;generalize hRDW:rdw sg=RDW at *;cbv;rw[htU,htu,←ho1,hsb];refine⟨⟨by((try simp only[nc] at *);omega),by((try simp only[nc] at *);omega)⟩,⟨by((try simp only[nc] at *);omega),by((try simp only[nc] at *);omega)⟩,⟨by((try simp only[nc] at *);omega),by((try simp only[nc] at *);omega)⟩,?_⟩
  rw[eK0];cbv;rw[eK1];cbv;rw[eK2];cbv;refine ka (ρ:=[(0,.n o1)]) hrd ⟨by rfl,by rfl,by rfl,by cbv;exact⟨hv1,trivial⟩⟩ ?_
  rintro v H R js4 ⟨rfl,⟨e,he,hr4,rfl,rfl⟩|⟨l,c3,hr4,rfl,rfl⟩⟩
  ·have ez:vc .neq e 0=true:=by rw[qc,kz];exact he
   cbv;rw[ez];cbv;exact⟨[0,1],.tup [.val (.slice none 0 0),.val (.slice none 0 0),.lit .i64 0,.lit .i64 11],[.ro .u8 b,.ro .u8 w],rfl,rfl,rfl,rfl,⟨rfl,rfl,trivial⟩,rfl,pbad 11 (fBn hr4)⟩
  try simp only[nc] at *
  obtain⟨hs1,hs2⟩:=hspec l hr4;have hh:=hsh hs1;obtain⟨hlu8,hl256,_⟩:=hu8 l hs2;obtain⟨o2,ho2⟩:∃o2,o2=vcutN o1 hN nN:=⟨_,rfl⟩;obtain⟨m2,hm2⟩:∃m2,m2=vsubN nN hN:=⟨_,rfl⟩;have hm2':m2=nN-hN:=by rw[hm2,qsubN]
  have ho2':o2=uN+hN∨hN=nN∧o2≤bl:=by
   have e:o2=if nN=hN then o1 else o1+hN:=by rw[ho2,qcutN]
   by_cases h:nN=hN
   ·rw[if_pos h] at e;right;constructor<;>omega
   ·rw[if_neg h] at e;left;rcases ho with h'|⟨h',_⟩<;>omega
  have hv2:=hvd hN o2 (by omega) ho2';have hd2l:(sg.drop hN).length=m2:=by rw[List.length_drop,hsl,hm2']
  have hrows:=hrowsA l (sg.drop hN) c3 m2 SZ RW hlu8 (by omega) (fun c hc=>hsm1 c (List.mem_of_mem_drop hc)) (by rw[hd2l];omega) (by rw[hd2l];omega) (by omega) ⟨hsz0,by omega⟩;rw[hd2l] at hrows;have fC:=fBl l hr4;clear fBl fBn;generalize qZ l (sg.drop hN) SZ RW=RR at *;generalize sg.drop hN=sg2 at *;obtain⟨ln,hln⟩:∃ln,ln=l.length:=⟨_,rfl⟩;rw[←hln] at hrows hl256 ⊢
  have htI:vtoN hI=hN:=by rw[qtoN,hhN];exact Int.toNat_natCast hN
  have ez:vc .neq 0 0=false:=by rw[qc];rfl
  clear hs2 hs1 hu8 hspec;cbv;rw[ez];cbv;rw[htI,←ho2,←hm2];refine⟨⟨by((try simp only[nc] at *);omega),by((try simp only[nc] at *);omega)⟩,?_⟩
  refine ka (ρ:=[(3,.z),(0,.n o2)]) hrows ⟨by rfl,by rfl,by rfl,by cbv;exact⟨kb _,hv2,trivial⟩⟩ ?_
  rintro v H R js5 ⟨rfl,⟨e,he,hr5,rfl,rfl⟩|⟨L,c5,hr5,rfl,rfl,hLc5⟩⟩
  ·have ez:vc .neq e 0=true:=by rw[qc,kz];exact he
   cbv;rw[ez];cbv;exact⟨[0,1],.tup [.val (.slice none 0 0),.val (.slice none 0 0),.lit .i64 0,.lit .i64 11],[.ro .u8 b,.ro .u8 w],rfl,rfl,rfl,rfl,⟨rfl,rfl,trivial⟩,rfl,pbad 11 (by rw[fC,hr5];rfl)⟩
  ·obtain⟨Ln,hLn⟩:∃Ln,Ln=L.length:=⟨_,rfl⟩;have ez':vc .neq 0 0=false:=by rw[qc];rfl
   rw[←hLn];cbv;rw[ez'];cbv;subst hLn;subst hln;exact⟨[0,1,4,3],.tup [.slice 2 .z 1 L.length c5,.slice 3 .z 1 l.length c3,.int .i64 uI,.lit .i64 0],[.ro .u8 b,.ro .u8 w,.buf 5 .u8 L c5,.buf 5 .u8 l c3],rfl,rfl,rfl,rfl,⟨rfl,rfl,rfl,rfl,trivial⟩,rfl,pown L l uI c5 c3 hLc5 (by rw[fC,hr5];rfl)⟩
 ·have eK0:vc .eql K 0=false:=by rw[qc,kh];omega
  have eK1:vc .eql K 1=false:=by rw[qc,kh];omega
  have eK2:vc .eql K 2=false:=by rw[qc,kh];omega
  rw[eK0];cbv;rw[eK1];cbv

  try simp only[nc] at *
  have hBB:BH=NP:=by rw[hBH ()];rw[if_neg (by omega),if_neg (by omega)]
  obtain⟨uI,huI⟩:∃uI,uI=US+NP:=⟨_,rfl⟩;have euI:vb .add .i64 US NP=uI:=by rw[qb,ku (by omega) (by omega),huI]
  replace f10b:=f10b () hlu hszm
  replace fB:=fB () hlu hszm
  rw[hBB] at f10b fB;rw[←huI] at f10b fB;rw[ebl,euI];generalize hz5:vc .lss bI uI=z5;cases z5
  rotate_left
  ·rw[qc,ko] at hz5;cbv;exact⟨[0,1],.tup [.val (.slice none 0 0),.val (.slice none 0 0),.lit .i64 0,.lit .i64 10],[.ro .u8 b,.ro .u8 w],rfl,rfl,rfl,rfl,⟨rfl,rfl,trivial⟩,rfl,pbad 10 (f10b (by omega))⟩
  rw[qc,km] at hz5;try simp only[nc] at *
  have fB:=fB hz5;clear f10b;obtain⟨nN,hnN⟩:∃nN:Nat,NP=(nN:Int):=⟨(NP:Int).toNat,by omega⟩;have htB:(NP:Int).toNat=nN:=by rw[hnN];exact Int.toNat_natCast nN
  rw[htB] at fB;have htU:vtoN US=uN:=by rw[qtoN,hUS];exact Int.toNat_natCast uN
  obtain⟨eN,heN⟩:∃eN:Nat,eN=uN+nN:=⟨_,rfl⟩;have hue:uI=(eN:Int):=by omega
  have htu:vtoN uI=eN:=by rw[qtoN,hue];exact Int.toNat_natCast eN
  have hsb:vsubN eN uN=nN:=by rw[qsubN];simp only;omega
  obtain⟨o1,ho1⟩:∃o1,o1=vcutN 0 uN eN:=⟨_,rfl⟩;have ho:o1=uN∨nN=0∧o1≤bl:=by
   have e:o1=if eN=uN then 0 else 0+uN:=by rw[ho1,qcutN]
   by_cases h:eN=uN
   ·rw[if_pos h] at e;right;constructor<;>omega
   ·rw[if_neg h] at e;left;omega
  have hebl:eN≤bl:=by omega
  have hsl:=hseg uN nN (by omega);have hv1:=hvs uN nN o1 (by omega) ho;have hsm1:=hsm uN nN;have hsd1:=hsegd uN nN;generalize hsg:SG uN nN=sg at *

  have fC:X=kept uI (qZ w sg SZ RW):=by rw[fB];unfold kb2;rw[if_neg (by omega),if_neg (by omega),if_neg (by omega)]
  clear fB;have hrows:=hrowsA w sg cap2 nN SZ RW hw8 (by omega) hsm1 (by omega) (by omega) (by omega) ⟨hsz0,by omega⟩;rw[hwl',hsl] at hrows;generalize qZ w sg SZ RW=RR at *;cbv;rw[htU,htu,←ho1,hsb];refine⟨⟨by((try simp only[nc] at *);omega),by((try simp only[nc] at *);omega)⟩,⟨by((try simp only[nc] at *);omega),by((try simp only[nc] at *);omega)⟩,⟨by((try simp only[nc] at *);omega),by((try simp only[nc] at *);omega)⟩,?_⟩
  rw[eK0];cbv;rw[eK1];cbv;rw[eK2];cbv;refine ka (ρ:=[(1,.z),(0,.n o1)]) hrows ⟨by rfl,by rfl,by rfl,by cbv;exact⟨kb _,hv1,trivial⟩⟩ ?_
  rintro v H R js5 ⟨rfl,⟨e,he,hr5,rfl,rfl⟩|⟨L,c5,hr5,rfl,rfl,hLc5⟩⟩
  ·have ez:vc .neq e 0=true:=by rw[qc,kz];exact he
   cbv;rw[ez];cbv;exact⟨[0,1],.tup [.val (.slice none 0 0),.val (.slice none 0 0),.lit .i64 0,.lit .i64 11],[.ro .u8 b,.ro .u8 w],rfl,rfl,rfl,rfl,⟨rfl,rfl,trivial⟩,rfl,pbad 11 (by rw[fC,hr5];rfl)⟩
  ·obtain⟨Ln,hLn⟩:∃Ln,Ln=L.length:=⟨_,rfl⟩;have ez':vc .neq 0 0=false:=by rw[qc];rfl
   rw[←hLn];cbv;rw[ez'];cbv;subst hLn;exact⟨[0,1,3],.tup [.slice 2 .z 1 L.length c5,.slice 1 .z 1 wl cap2,.int .i64 uI,.lit .i64 0],[.ro .u8 b,.ro .u8 w,.buf 5 .u8 L c5],rfl,rfl,rfl,rfl,⟨rfl,rfl,rfl,trivial⟩,rfl,pkeep L uI c5 hLc5 (by rw[fC,hr5];rfl)⟩
theorem knv (b w:List Int) (cap cap2:Nat) (most:Int) (hb:∀c∈b,kF c) (hw8:∀c∈w,kF c) (hbl:b.length≤140737488355328) (hwl:w.length≤140737488355328) (hcap:b.length≤cap) (hcm:cap≤9223372036854775807) :
  Con Try.prog 23 [.slice 0 .z 1 b.length cap,.slice 1 .z 1 w.length cap2,.int .i64 most] [.ro .u8 b,.ro .u8 w] (fun v H R=>R=[]∧PRd b w cap2 (RdL b w most) v H):=by
 obtain⟨f2,f10,_⟩:=kck b w most;by_cases hmo:most<0∨131072<most
 ·rw[f2 hmo];refine kf (kw 2 (by simp) (kg (kc kj kon ?_)))
  intro vb vc vw vtoN vofN vaddN vsubN vmaxI vminI vcutN vgd vst vln vrep vsub vonto vsplice vstrEq vbyteV vnotB veqB hw qb qc qw qtoN qofN qaddN qsubN qmaxI qminI qcutN qgd qst qln qrep qsub qonto qsplice qstrEq qbyteV qnotB qeqB;have hm:=kj;generalize Try.prog=P at *;clear f2 f10;generalize b.length=bl at *;generalize w.length=wl at *;cbv;generalize hz1:vc .lss most 0=z1;cases z1
  rotate_left
  ·cbv
  rw[qc,km] at hz1;have em2:vc .gtr most 131072=true:=by rw[qc,gtr_true];omega
  cbv;rw[em2];cbv
 by_cases hb0:b.length=0
 ·rw[f10 hmo hb0];refine kf (kw 2 (by simp) (kg (kc kj kon ?_)))
  intro _ vc _ _ vofN _ _ _ _ _ _ _ _ _ _ _ _ _ _ _ _ _ _ qc _ _ qofN _ _ _ _ _ _ _ _ _ _ _ _ _ _ _ _;have hm:=kj;generalize Try.prog=P at *;clear f2 f10;generalize b.length=bl at *;generalize w.length=wl at *;subst hb0;have em1:vc .lss most 0=false:=by rw[qc,km];omega
  have em2:vc .gtr most 131072=false:=by rw[qc,gtr_false];omega
  have e:vc .eql (vofN 0) 0=true:=by rw[qc,qofN];rfl
  cbv;rw[em1];cbv;rw[em2];cbv;rw[e];cbv
 by_cases hk:kdH b<2
 ·exact kqp b w cap cap2 most hb hw8 hbl hwl hcap hcm hk hb0 hmo
 ·exact kqq b w cap cap2 most hb hw8 hbl hwl hcap hcm hk hb0 hmo
end Go.Proofs.Ytlclleihoampdaa
