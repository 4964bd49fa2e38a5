import Derived.Test.YtlclleihoampdaaA3
import Derived.Test.YtlclleihoampdaaA1
import Derived.Test.YtlclleihoampdaaED
set_option linter.unusedVariables false
set_option linter.unusedSimpArgs false
namespace Go.Proofs.Ytlclleihoampdaa
open Go Go.Sx Go.Proofs
set_option maxRecDepth 10000
set_option maxHeartbeats 40000000
theorem koG {l l':List Int} {n:Nat} (h:∀i,i<n→l.getD i 0=l'.getD i 0):sm l n=sm l' n:=by
 induction n with
 |zero=>rfl
 |succ n ih=>simp only[sm];rw[ih (fun i hi=>h i (by omega)),h n (by omega)]
theorem getD_take {l:List Int} {n i:Nat} (h:i<n):(l.take n).getD i 0=l.getD i 0:=by
 rw[List.getD_eq_getElem?_getD,List.getD_eq_getElem?_getD,List.getElem?_take,if_pos h]
theorem kjq (l0:List Int) (n cap cc:Nat) (hl:∀c∈l0,kv c) (hn:n≤l0.length) (hcc:cap≤cc) (hlen:n≤1000) :
  Con Try.prog 49 [.slice 0 .z 1 n cap] [.buf 5 .u8 l0 cc] (fun v H R=>R=[0]∧((∃l c',OkE (l0.take n) l∧H=[.buf 5 .u8 l c']∧v=.tup [.slice 0 .z 1 l.length c',.bool true]) ∨
   ((∀l,¬OkE (l0.take n) l)∧∃l' c',H=[.buf 5 .u8 l' c']∧(v=.tup [.val (.slice none 0 0),.bool false]∨∃n',v=.tup [.slice 0 .z 1 n' c',.bool false])))):=by
 have hlen1:=koF;have htl:(l0.take n).length=n:=by rw[List.length_take];omega
 have hsz:∀(w:Int) (c':Nat) (m:Int),kv w→Msz (l0.take n++[w]) m→Con Try.prog 45 [.slice 0 .z 1 (n+1) c'] [.ro .u8 (l0.take n++[w])] (fun v H R=>v=.int .i64 m∧H=[.ro .u8 (l0.take n++[w])]∧R=[]):=by
  intro w c' m hw hm;have:=qy (l0.take n++[w]) c' m (fun c hc=>(List.mem_append.1 hc).elim (fun h=>hl c (List.mem_of_mem_take h)) (fun h=>by rw[List.mem_singleton.1 h];exact hw)) (by rw[List.length_append,htl];simp;omega) hm;rw[List.length_append,htl] at this;exact this
 have hex:=fun w=>Msz.ex (l0.take n++[w])
 have hpos:∀w m,Msz (l0.take n++[w]) m→(0<m↔∃M,Wt (l0.take n++[w]) M):=by
  intro w m hm;rcases hm with⟨M,hW,rfl⟩|⟨h,rfl⟩
  ·exact⟨fun _=>⟨M,hW⟩,fun _=>by have:=hW.pos;omega⟩
  ·exact⟨fun h'=>by omega,fun⟨M,h'⟩=>(h M h').elim⟩
 have hsmA:smA (l0.take n)=sm l0 n:=by unfold smA;rw[htl];exact koG (fun i hi=>getD_take hi)
 have hok:∀l,OkE (l0.take n) l→n≤255∧(∀i,i<n→l0.getD i 0≤11)∧0<sm l0 n∧(∃k:Nat,2^(kK (sm l0 n)).toNat-sm l0 n=2^k∧l=l0.take n++[(k:Int)+1])∧∃M,Wt l M:=by
  intro l h;unfold OkE at h;rw[htl,hsmA] at h;exact⟨h.1,fun i hi=>by have:=h.2.1 i hi;rw[getD_take hi] at this;exact this,h.2.2⟩
 have hko:∀(k M:Nat),n≤255→(∀i,i<n→l0.getD i 0≤11)→0<sm l0 n→2^(kK (sm l0 n)).toNat-sm l0 n=2^k→Wt (l0.take n++[(k:Int)+1]) M→OkE (l0.take n) (l0.take n++[(k:Int)+1]):=by
  intro k M h1 h2 h3 h4 h5;unfold OkE;rw[htl,hsmA];exact⟨h1,fun i hi=>by rw[getD_take hi];exact h2 i hi,h3,⟨k,h4,rfl⟩,M,h5⟩
 have hover:=@kmN;have htl1:∀w:Int,(l0.take n++[w]).length=n+1:=fun w=>by rw[List.length_append,htl];rfl
 refine kj (kA 1 (by simp) (jr [0] (kg kr krj ?_)))
 intro vb vc vw vtoN vofN vaddN _ _ _ _ vgd _ vln _ vsub vonto _ _ _ _ _ hw qb qc qw qtoN qofN qaddN _ _ _ _ qgd _ qln _ qsub qonto _ _ _ _ _;have hm:=kr;generalize Try.prog=P at *;have hge:=jm hl;have hsr:=fun i=>@kf2 l0 i
 have hs0:sm l0 0=0:=rfl;have hss:∀i,sm l0 (i+1)=sm l0 i+pw (l0.getD i 0):=fun _=>rfl
 have hpr:=@kbY;have hpwd:∀w:Int,0≤w→w≤11→vb .shr .u64 (vb .shl .u64 1 w) 1=pw w:=fun w h0 h1=>by rw[qb];exact klh h0 h1
 have hand:∀s:Int,1≤s→s<2^64→(vb .and .u64 s (s-1)=0↔∃k:Nat,s=2^k):=fun s h0 h1=>by rw[qb];exact klf h0 h1
 have hbp:=kdp;have hbr:∀x:Int,0≤x→x<2^20→0≤kK x∧kK x≤20:=fun x h0 h1=>kbo (n:=20) h0 h1
 generalize sm l0=SM at *;generalize pw=PW at *;generalize kK=BL at *;generalize hTK:l0.take n=TK at *;generalize OkE TK=OK at *;generalize hl0:l0.length=nl at *;have hto:∀i:Nat,vtoN (i:Int)=i:=fun i=>by simp only[qtoN,Int.toNat_natCast]
 have hadd0:∀i,vaddN 0 i=i:=fun i=>by simp only[qaddN,Nat.zero_add]
 have hvln:vln l0=nl:=by simp only[qln,hl0]
 have hvgd:∀i,vgd l0 i=l0.getD i 0:=fun i=>by simp only[qgd]
 obtain⟨nI,hnI⟩:∃nI:Int,nI=n:=⟨_,rfl⟩;have en:vofN n=nI:=by rw[hnI,qofN]
 cbv;simp only[nc] at *;rw[en];refine kl (α:=Int×Int) ([6]++[12,13,14,15,16,17,18,19,20,21,22]) [0] (fun(k,s)=>[(11,.int .i64 k),(4,.int .u64 s)]) (fun _=>[])
  (fun(k,s)=>∃i:Nat,k=i∧i≤n∧s=SM i∧∀j,j<i→l0.getD j 0≤11) (fun(k,_)=>n-k.toNat) hw hm ?_ ?_
 ·refine Cv.genAt [11,4] [] (Cv.fold ([6]++[12,13,14,15,16,17,18,19,20,21,22]) 1 [0] (by exact Nat.le_refl _) (by exact Nat.le_of_ble_eq_true rfl) (by rfl) (by cbv) ?_)
  intro js;refine⟨(_,_),?_,js,rfl⟩
  exact⟨0,rfl,by((try simp only[nc] at *);omega),hs0.symm,fun j hj=>by((try simp only[nc] at *);omega)⟩
 ·rintro⟨k,s⟩ js ⟨i,hk,hi,hs,hj⟩;have hsi:=hsr i hj;cbv;generalize hz4:vc .lss k nI=z4;cases z4
  rotate_left
  ·rw[qc,kf] at hz4;have hlt:i<n:=by((try simp only[nc] at *);omega)
   have hti:vtoN k=i:=by rw[hk];exact hto i
   have hinR:0≤k∧k<(n:Int):=by((try simp only[nc] at *);omega)
   obtain⟨k1,hk1⟩:∃k1:Int,k1=((i+1:Nat):Int):=⟨_,rfl⟩;have ek:vb .add .i64 k 1=k1:=by rw[qb,kh (by((try simp only[nc] at *);omega)) (by((try simp only[nc] at *);omega))];((try simp only[nc] at *);omega)
   have hmu:∀_:Unit,n-k1.toNat<n-k.toNat:=fun _=>by((try simp only[nc] at *);omega)
   have hx:=hge i;have hss1:=hss i;have hlt2:i<nl:=by((try simp only[nc] at *);omega)
   cbv;rw[hti,hadd0,hvgd,hvln];refine⟨⟨hinR⟩,⟨hlt2⟩,⟨hlt2⟩,?_⟩
   generalize hxi:l0.getD i 0=x at *;generalize hz5:vc .gtr x 11=z5;cases z5
   rotate_left
   ·rw[qc,kz] at hz5;cbv;exact .inr ⟨fun l h=>by have:=(hok l h).2.1 i hlt;rw[hxi] at this;((try simp only[nc] at *);omega),l0,cc,rfl,.inl rfl⟩
   rw[qc,ku] at hz5;have hpx:=hpr (w:=x) (by((try simp only[nc] at *);omega));have hpw:=hpwd x (by((try simp only[nc] at *);omega)) (by((try simp only[nc] at *);omega));obtain⟨s1,hs1⟩:∃s1,s1=SM (i+1):=⟨_,rfl⟩;have es:vb .add .u64 s (PW x)=s1:=by
    rw[qb,hs1,hss1,←hs];exact wrap_u64 (by((try simp only[nc] at *);omega)) (by((try simp only[nc] at *);omega))
   have hjj:∀j,j<i+1→l0.getD j 0≤11:=fun j hj2=>by
    by_cases e:j=i
    ·subst e;((try simp only[nc] at *);omega)
    ·exact hj j (by((try simp only[nc] at *);omega))
   cbv;rw[hpw,es,ek];refine⟨⟨by((try simp only[nc] at *);omega)⟩,?_⟩
   refine Cv.fold ([6]++[12,13,14,15,16,17,18,19,20,21,22]) 1 [0] (by exact Nat.le_refl _) (by exact Nat.le_of_ble_eq_true rfl) (by rfl) (by cbv) ?_
   intro js;refine⟨(_,_),?_,js,rfl⟩
   exact⟨⟨i+1,hk1,hlt,hs1,hjj⟩,hmu ()⟩
  ·rw[qc,ke] at hz4;obtain rfl:i=n:=by((try simp only[nc] at *);omega)
   cbv;generalize hz5:vc .eql s 0=z5;cases z5
   rotate_left
   ·rw[qc,kF] at hz5;cbv;exact .inr ⟨fun l h=>by have:=(hok l h).2.2.1;((try simp only[nc] at *);omega),l0,cc,rfl,.inl rfl⟩
   rw[qc,kx] at hz5;cbv;rw[en];generalize hz6:vc .gtr nI 255=z6;cases z6
   rotate_left
   ·rw[qc,kz] at hz6;cbv;exact .inr ⟨fun l h=>by have:=(hok l h).1;((try simp only[nc] at *);omega),l0,cc,rfl,.inl rfl⟩
   rw[qc,ku] at hz6;have hs18:0<s∧s≤262144:=by((try simp only[nc] at *);omega)
   obtain⟨ho1,ho2⟩:=hover hs18.1;have hc1:=hlen1 s ⟨by((try simp only[nc] at *);omega),by((try simp only[nc] at *);omega)⟩;obtain⟨K,hK⟩:∃K:Nat,K=(BL s).toNat:=⟨_,rfl⟩;rw[←hK] at ho1 ho2;obtain⟨bI,hbI⟩:∃bI:Int,bI=BL s:=⟨_,rfl⟩;rw[←hbI] at hc1 hK;have hbI2:=hbr s (by((try simp only[nc] at *);omega)) (by((try simp only[nc] at *);omega));rw[←hbI] at hbI2;have hKb:(K:Int)=bI:=by((try simp only[nc] at *);omega)
   have hpK20:(2:Int)^K≤2^20:=qj (by((try simp only[nc] at *);omega));obtain⟨pK,hpK⟩:∃pK:Int,pK=2^K:=⟨_,rfl⟩;rw[←hpK] at ho1 ho2 hpK20;have ewb:vw .u64 bI=bI:=by rw[qw];exact wrap_u64 (by((try simp only[nc] at *);omega)) (by((try simp only[nc] at *);omega))
   have hbits:(2:Int)^(IntKind.u64).bits=18446744073709551616:=by decide
   have esl:vb .shl .u64 1 bI=pK:=by
    have e:1*2^bI.toNat=pK:=by rw[←hK,hpK,Int.one_mul]
    rw[qb,kaL rfl (by decide) (by show bI≤64;((try simp only[nc] at *);omega)) (by rw[e,hbits];((try simp only[nc] at *);omega)),e]
   obtain⟨re,hre⟩:∃re:Int,re=pK-s:=⟨_,rfl⟩;have esb:vb .sub .u64 pK s=re:=by rw[qb,hre];exact wrap_u64 (by((try simp only[nc] at *);omega)) (by((try simp only[nc] at *);omega))
   obtain⟨re1,hre1⟩:∃re1:Int,re1=re-1:=⟨_,rfl⟩;have esb1:vb .sub .u64 re 1=re1:=by rw[qb,hre1];exact wrap_u64 (by((try simp only[nc] at *);omega)) (by((try simp only[nc] at *);omega))
   have hands:=hand re (by((try simp only[nc] at *);omega)) (by((try simp only[nc] at *);omega));rw[←hre1] at hands;obtain⟨an,han⟩:∃an,an=vb .and .u64 re re1:=⟨_,rfl⟩;rw[←han] at hands;cbv;refine ka (ρ:=[]) hc1 ⟨by rfl,by rfl,by rfl,by cbv⟩ ?_
   rintro v H R js2 ⟨rfl,rfl,rfl⟩;cbv;rw[ewb,esl,esb];refine⟨⟨by((try simp only[nc] at *);omega)⟩,?_⟩
   rw[esb1,←han];generalize hz7:vc .neq an 0=z7;cases z7
   rotate_left
   ·rw[qc,jl] at hz7;cbv;exact .inr ⟨fun l h=>by
     obtain⟨_,_,_,⟨k,h4,_⟩,_⟩:=hok l h;refine hz7 (hands.2 ⟨k,?_⟩)
     rw[hre,hpK,hK,hbI,hs];exact h4,l0,cc,rfl,.inl rfl⟩
   rw[qc,ql] at hz7;obtain⟨kk,hkk⟩:=hands.1 (Classical.not_not.1 hz7);have hkb:BL re=kk+1:=by rw[hkk];exact hbp kk
   have hkr:=hbr re (by((try simp only[nc] at *);omega)) (by((try simp only[nc] at *);omega));have hc2:=hlen1 re ⟨by((try simp only[nc] at *);omega),by((try simp only[nc] at *);omega)⟩;obtain⟨w,hw1⟩:∃w:Int,w=(kk:Int)+1:=⟨_,rfl⟩;rw[hkb,←hw1] at hc2;have hw8:kv w:=by unfold kv;((try simp only[nc] at *);omega)
   have eww:vw .u8 w=w:=by rw[qw];exact wrap_u8 (by have:=hw8.1;((try simp only[nc] at *);omega)) (by have:=hw8.2;((try simp only[nc] at *);omega))
   obtain⟨m,hm0⟩:=hex w;have hszw:=fun c'=>hsz w c' m hw8 hm0
   have hposw:=hpos w m hm0;have hkow:=fun M h=>hko kk M (by((try simp only[nc] at *);omega)) hj (by((try simp only[nc] at *);omega)) (by rw[←hs,←hbI,←hK,←hpK,←hre];exact hkk) h
   rw[←hw1] at hkow;have hoku:∀l,OK l→l=TK++[w]∧0<m:=fun l h=>by
    obtain⟨_,_,_,⟨k',h4,h5⟩,M,h6⟩:=hok l h;have:k'=kk:=by
     have h7:(2:Int)^k'=2^kk:=by rw[←h4,←hkk,hre,hpK,hK,hbI,hs]
     exact klg h7
    subst this;rw[←hw1] at h5;subst h5;exact⟨rfl,hposw.2 ⟨M,h6⟩⟩
   obtain⟨L2,hL2⟩:∃L2,L2=TK++[w]:=⟨_,rfl⟩;have hont:vonto l0 i (vsub [w] 0 1)=L2:=by rw[hL2,←hTK,qsub,qonto];rfl
   have hL2n:L2.length=i+1:=by rw[hL2];exact htl1 w
   rw[←hL2] at hszw hposw hkow hoku;have hadd1:vaddN i 1=i+1:=by rw[qaddN]
   obtain⟨i1,hi1⟩:∃i1,i1=i+1:=⟨_,rfl⟩;rw[←hi1] at hszw hadd1 hL2n;have hln1:vln [w]=1:=by rw[qln];rfl
   have hi1b:i1*1≤140737488355328:=by omega
   cbv;refine ka (ρ:=[]) hc2 ⟨by rfl,by rfl,by rfl,by cbv⟩ ?_
   rintro v H R js3 ⟨rfl,rfl,rfl⟩;cbv;rw[eww];refine⟨⟨by rw[hadd0,hln1];exact Nat.le_refl _⟩,⟨by rw[hvln];exact hn⟩,⟨hcc⟩,⟨by rw[hadd1];exact hi1b⟩,?_⟩
   intro c1 js4 hle;cbv;rw[hont,hadd1];refine ka (ρ:=[(0,.z)]) (hszw c1) ⟨by rfl,by rfl,by rfl,by cbv;exact⟨kb _,trivial⟩⟩ ?_
   rintro v H R js5 ⟨rfl,rfl,rfl⟩;cbv;generalize hz8:vc .gtr m 0=z8;cases z8
   ·rw[qc,ku] at hz8;exact .inr ⟨fun l h=>hz8 (hoku l h).2,L2,c1,rfl,.inr ⟨i1,rfl⟩⟩
   ·rw[qc,kz] at hz8;obtain⟨M,hM⟩:=hposw.1 hz8;subst hL2n;exact .inl ⟨L2,c1,hkow M hM,rfl,rfl⟩
theorem OkE.bound {t l:List Int} (h:OkE t l):smA t≤2048∧∃k:Nat,k≤10∧2^(kK (smA t)).toNat-smA t=2^k∧l=t++[(k:Int)+1]:=by
 obtain⟨h1,h2,h3,⟨k,h4,rfl⟩,M,hW⟩:=h;have hl:(t++[(k:Int)+1]).length=t.length+1:=by simp
 have hg:(t++[(k:Int)+1]).getD t.length 0=(k:Int)+1:=by simp[List.getD_eq_getElem?_getD]
 have h5:=hW.2.2.2.1 t.length (by omega);rw[hg] at h5;have h6:=hW.2.2.2.2.2.1;rw[hl] at h6;simp only[sm] at h6;have h7:sm (t++[(k:Int)+1]) t.length=smA t:=koG (fun i hi=>by rw[List.getD_eq_getElem?_getD,List.getElem?_append_left hi,←List.getD_eq_getElem?_getD]);have h8:=kbY (w:=(t++[(k:Int)+1]).getD t.length 0) (by rw[hg];omega);have h9:(2:Int)^M≤2^11:=qj hW.2.2.2.2.2.2;exact⟨by omega,k,by omega,h4,rfl⟩
def byS (A B C:Nat→Int) (b:List Int):Nat→Int→Int→Int→List Int→Option (List Int)
 |0,_,_,_,_=>none
 |f+1,a,o,p,l=>if p-B a.toNat<0 then some (l++[A a.toNat]++[A o.toNat]) else byS A B C b f o (C a.toNat+rd b p (B a.toNat).toNat) (p-B a.toNat) (l++[A a.toNat])
def bst (F:Nat) (b:List Int):Option (List Int):=
 match keH b 6 11 with
 | (cs,log,used,e)=>if e≠0 then none else if ¬j6 cs log then none else if (b.drop used.toNat).getLastD 0=0 then none
  else if jP (b.drop used.toNat)-log-log<0 then none
  else byS (qD cs (2^log.toNat)) (kbB cs log (2^log.toNat) (2^log.toNat:Int).toNat) (kbq cs log (2^log.toNat) (2^log.toNat:Int).toNat) (b.drop used.toNat) F
   (rd (b.drop used.toNat) (jP (b.drop used.toNat)) log.toNat) (rd (b.drop used.toNat) (jP (b.drop used.toNat)-log) log.toNat) (jP (b.drop used.toNat)-log-log) []
theorem koH {A B C:Nat→Int} {b:List Int} (hA:∀k,kv (A k)):∀(F:Nat) (a o p:Int) (l L:List Int),(∀c∈l,kv c)→byS A B C b F a o p l=some L→(∀c∈L,kv c)∧L.length≤l.length+F+1
 |0,a,o,p,l,L,hl,h=>by simp[byS] at h
 | f+1,a,o,p,l,L,hl,h=>by
  have hl1:∀c∈l++[A a.toNat],kv c:=fun c hc=>(List.mem_append.1 hc).elim (hl c) (fun e=>by rw[List.mem_singleton.1 e];exact hA _)
  simp only[byS] at h;split at h
  ·rw[Option.some.injEq] at h;subst h;refine⟨fun c hc=>(List.mem_append.1 hc).elim (hl1 c) (fun e=>by rw[List.mem_singleton.1 e];exact hA _),?_⟩
   simp
  ·have:=koH hA f _ _ _ _ L hl1 h;refine⟨this.1,?_⟩
   have h2:=this.2;rw[List.length_append] at h2;simp at h2
   omega
theorem klp {cs:List Int} {log:Int} (hR:j6 cs log) (size:Int) (k:Nat):kv (qD cs size k):=by
 have h:=kcO (l:=cs) size (by have:=hR.2.2.1;omega) k;have:=hR.2.2.2.1;unfold kv;omega
theorem kga {F:Nat} {b L:List Int} (h:bst F b=some L):(∀c∈L,kv c)∧L.length≤F+1:=by
 unfold bst at h;generalize hRR:keH b 6 11=r at h;obtain⟨cs,log,used,e⟩:=r;simp only at h
 split at h
 ·cases h
 split at h
 ·cases h
 rename_i hR;split at h
 ·cases h
 split at h
 ·cases h
 have:=koH (klp (Decidable.not_not.1 hR) _) F _ _ _ _ L (by simp) h;simpa using this
theorem kjr {b:List Int} (hby:∀x∈b,isByte x) (u:Nat):∀x∈b.drop u,isByte x:=fun x hx=>hby x (List.mem_of_mem_drop hx)
theorem kkC (b:List Int) (u cap:Nat) (hu:u≤b.length) (hc:b.length≤cap):kdP (if cap=u then 0 else 0+u) (b.drop u) b:=by
 refine⟨?_,fun i hi=>?_⟩
 ·rw[List.length_drop];split<;>omega
 ·rw[List.length_drop] at hi;rw[if_neg (by omega)];rw[List.getD_eq_getElem?_getD,List.getD_eq_getElem?_getD,List.getElem?_drop,Nat.zero_add]
theorem kdv (b:List Int) (cap:Nat) (hby:∀x∈b,isByte x) (hl:b.length≤1000000) (hcap:b.length≤cap) :
  Con Try.prog 48 [.slice 0 .z 1 b.length cap] [.ro .u8 b] (fun v H R=>R=[]∧((bst 256 b=none∧H=[.ro .u8 b]∧v=.tup [.val (.slice none 0 0),.bool false]) ∨
   ∃L c',bst 256 b=some L∧H=[.ro .u8 b,.buf 5 .u8 L c']∧v=.tup [.slice 1 .z 1 L.length c',.bool true])):=by
 obtain⟨⟨cs,log,used,e⟩,hRR⟩:∃r,keH b 6 11=r:=⟨_,rfl⟩;have hres:bst 256 b=(if e≠0 then none else if ¬j6 cs log then none else if (b.drop used.toNat).getLastD 0=0 then none
  else if jP (b.drop used.toNat)-log-log<0 then none
  else byS (qD cs (2^log.toNat)) (kbB cs log (2^log.toNat) (2^log.toNat:Int).toNat) (kbq cs log (2^log.toNat) (2^log.toNat:Int).toNat) (b.drop used.toNat) 256
   (rd (b.drop used.toNat) (jP (b.drop used.toNat)) log.toNat) (rd (b.drop used.toNat) (jP (b.drop used.toNat)-log) log.toNat) (jP (b.drop used.toNat)-log-log) []):=by
  unfold bst;rw[hRR]
 by_cases he:e≠0
 ·have h1:=koC b cap 6 11 hby (by omega) (by omega) (by omega) cs log used e hRR he;rw[if_pos he] at hres;refine kj (kG (km (kg kr kpe ?_)))
  intro vb vc vw vtoN vofN vaddN vsubN vmaxI vminI vcutN vgd vst vln vrep vsub vonto vsplice vstrEq vbyteV vnotB veqB hw qb qc qw qtoN qofN qaddN qsubN qmaxI qminI qcutN qgd qst qln qrep qsub qonto qsplice qstrEq qbyteV qnotB qeqB;have hm:=kr;generalize Try.prog=P at *;generalize b.length=bl at *;generalize bst 256 b=RES at *;have hz:vc .neq e 0=true:=by rw[qc,jl];exact he
  cbv;refine ka (ρ:=[(0,.z)]) h1 ⟨by rfl,by rfl,by rfl,by cbv;exact⟨kb _,trivial⟩⟩ ?_
  rintro v H R js ⟨rfl,rfl,rfl⟩;cbv;rw[hz];cbv;exact⟨[0],.tup [.val (.slice none 0 0),.bool false],[.ro .u8 b],rfl,rfl,rfl,rfl,⟨rfl,trivial⟩,rfl,.inl ⟨hres,rfl,rfl⟩⟩
 have he0:e=0:=Decidable.not_not.1 he;subst he0;rw[if_neg he] at hres;clear he;have h1:=kpE b cap 6 11 hby (by omega) (by omega) (by omega) cs log used hRR;obtain⟨hcs,hu0,hu1,hlg0,hlg1⟩:=koD hRR;by_cases hR:j6 cs log
 rotate_left
 ·have h2:=fun c=>kmC cs log c hcs (by omega) hR
  rw[if_pos hR] at hres;refine kj (kG (km (kg kr kpe ?_)))
  intro vb vc vw vtoN vofN vaddN vsubN vmaxI vminI vcutN vgd vst vln vrep vsub vonto vsplice vstrEq vbyteV vnotB veqB hw qb qc qw qtoN qofN qaddN qsubN qmaxI qminI qcutN qgd qst qln qrep qsub qonto qsplice qstrEq qbyteV qnotB qeqB;have hm:=kr;generalize Try.prog=P at *;generalize b.length=bl at *;generalize cs.length=cl at *;generalize bst 256 b=RES at *;have h00:vc .neq 0 0=false:=by rw[qc];rfl
  have h70:vc .neq 70 0=true:=by rw[qc];rfl
  cbv;refine ka (ρ:=[(0,.z)]) h1 ⟨by rfl,by rfl,by rfl,by cbv;exact⟨kb _,trivial⟩⟩ ?_
  rintro v H R js ⟨rfl,c1,rfl,rfl⟩;cbv;rw[h00];cbv;refine ka (ρ:=[(1,.z)]) (h2 c1) ⟨by rfl,by rfl,by rfl,by cbv;exact⟨kb _,trivial⟩⟩ ?_
  rintro v H R js ⟨rfl,rfl,rfl⟩;cbv;rw[h70];cbv;exact⟨[0],.tup [.val (.slice none 0 0),.bool false],[.ro .u8 b],rfl,rfl,rfl,rfl,⟨rfl,trivial⟩,rfl,.inl ⟨hres,rfl,rfl⟩⟩
 rw[if_neg (fun h=>h hR)] at hres;have h2:=fun c=>ki5 cs log c hcs (by omega) hR
 obtain⟨u,hu⟩:∃u:Nat,used=u:=⟨used.toNat,by omega⟩;subst hu;rw[Int.toNat_natCast] at hres;have hvd:=kkC b u cap (by omega) hcap;have hbd:=kjr hby u;have hbl':(b.drop u).length=b.length-u:=List.length_drop;by_cases hla:(b.drop u).getLastD 0=0
 ·have h3:=fun c=>kk9 (b.drop u) c hla (by omega)
  rw[if_pos hla] at hres;refine kj (kG (km (kg kr kpe ?_)))
  intro vb vc vw vtoN vofN vaddN vsubN vmaxI vminI vcutN vgd vst vln vrep vsub vonto vsplice vstrEq vbyteV vnotB veqB hw qb qc qw qtoN qofN qaddN qsubN qmaxI qminI qcutN qgd qst qln qrep qsub qonto qsplice qstrEq qbyteV qnotB qeqB;have hm:=kr;generalize Try.prog=P at *;generalize b.drop u=b' at *;rw[hbl'] at h3;generalize hbl:b.length=bl at *;generalize cs.length=cl at *;generalize bst 256 b=RES at *;generalize (2^log.toNat:Int).toNat=N at *;generalize qD cs (2^log.toNat)=A at *;generalize kbB cs log (2^log.toNat) N=B at *;generalize kbq cs log (2^log.toNat) N=C at *;have h00:vc .neq 0 0=false:=by rw[qc];rfl
  have htu:vtoN (u:Int)=u:=by rw[qtoN];exact Int.toNat_natCast u
  have hcu:vcutN 0 u cap=if cap=u then 0 else 0+u:=by rw[qcutN]
  have hsu:vsubN bl u=bl-u:=by rw[qsubN]
  obtain⟨uI,huI⟩:∃uI:Int,uI=(u:Int):=⟨_,rfl⟩;rw[←huI] at h1 htu hu0 hu1;rw[←hcu] at hvd;rw[←hsu] at h3;obtain⟨o1,ho1⟩:∃o1,o1=vcutN 0 u cap:=⟨_,rfl⟩;obtain⟨n1,hn1⟩:∃n1,n1=vsubN bl u:=⟨_,rfl⟩;rw[←ho1] at hvd;rw[←hn1] at h3;cbv;refine ka (ρ:=[(0,.z)]) h1 ⟨by rfl,by rfl,by rfl,by cbv;exact⟨kb _,trivial⟩⟩ ?_
  rintro v H R js ⟨rfl,c1,rfl,rfl⟩;cbv;rw[h00];cbv;refine ka (ρ:=[(1,.z)]) (h2 c1) ⟨by rfl,by rfl,by rfl,by cbv;exact⟨kb _,trivial⟩⟩ ?_
  rintro v H R js ⟨rfl,rfl,rfl⟩;cbv;rw[h00];cbv;rw[htu,←ho1,←hn1];refine⟨fun _=>rfl,⟨hu0,hu1⟩,?_⟩
  refine ka (ρ:=[(0,.n o1)]) (h3 (vsubN cap u)) ⟨by rfl,by rfl,by rfl,by cbv;exact⟨fun _=>rfl,hvd,trivial⟩⟩ ?_
  rintro v H R js ⟨rfl,rfl,rfl⟩;cbv;refine⟨fun _=>rfl,?_⟩
  exact⟨[0],.tup [.val (.slice none 0 0),.bool false],[.ro .u8 b],rfl,rfl,rfl,rfl,⟨rfl,trivial⟩,rfl,.inl ⟨hres,rfl,rfl⟩⟩
 rw[if_neg hla] at hres;have h3:=fun c=>kiZ (b.drop u) c hla hbd (by omega)
 obtain⟨P0,hP0,hP0l,_,_⟩:=keA (b.drop u) hla hbd;have hmk:8*(((b.drop u).length:Int)-1)+(len8 ((b.drop u).getLastD 0)-1)=P0:=hP0;rw[hmk] at h3;rw[hP0] at hres;have hpl:=kaM (log:=log) ⟨hlg0,hlg1⟩;obtain⟨N,hN⟩:∃N:Nat,(2^log.toNat:Int)=N:=⟨(2^log.toNat:Int).toNat,by omega⟩;have hNt:(2^log.toNat:Int).toNat=N:=by omega
 have hcell:∀k:Nat,k<N→0≤kbB cs log (2^log.toNat) N k∧kbB cs log (2^log.toNat) N k≤12∧0≤kbq cs log (2^log.toNat) N k∧kbq cs log (2^log.toNat) N k+2^(kbB cs log (2^log.toNat) N k).toNat≤N:=by
  intro k hk;obtain⟨bb,q1,q2,q3,q4,_⟩:=kld hR rfl hN hk;rw[q2,Int.toNat_natCast,←hN];exact⟨by omega,by omega,q3,q4⟩
 have hbits:∀(c:Nat) (p n:Int),-100≤p→p≤8*(b.drop u).length→0≤n→n≤12→Con Try.prog 36 [.ptr 0 .z 2 0,.int .i64 n] [.one 143 [.slice 1 .z 1 (b.drop u).length c,.int .i64 p],.ro .u8 (b.drop u)]
   (fun v H R=>v=.int .u64 (rd (b.drop u) p n.toNat)∧R=[]∧H=[.one 143 [.slice 1 .z 1 (b.drop u).length c,.int .i64 (p-n)],.ro .u8 (b.drop u)]):=by
  intro c p n h1 h2 h3 h4;have:=kiX (b.drop u) c p n hbd ⟨by omega,h2⟩ (by omega);have e1:qu n=n.toNat:=by unfold qu;rw[if_neg (by omega),if_neg (by omega)]
  have e2:kas (p-(n.toNat:Nat))=p-n:=by unfold kas;rw[if_neg (by omega)];omega
  rw[e1,e2] at this;exact this
 have hleft:=fun c p=>kiY (b.drop u) (b.drop u).length c p
 have hrb:=fun p n=>kar (b.drop u) p n
 have hAu:=klp hR (2^log.toNat);rw[hNt] at hres h2;have ha0:=hrb P0 log.toNat;have ho0:=hrb (P0-log) log.toNat;rw[hN] at ha0 ho0;refine kj (kG (km (kg kr kpe ?_)))
 intro vb vc vw vtoN vofN vaddN vsubN _ _ vcutN _ _ vln _ vsub vonto _ _ _ _ _ hw qb qc qw qtoN qofN qaddN qsubN _ _ qcutN _ _ qln _ qsub qonto _ _ _ _ _;have f40:=kqn;have hm:=kr;generalize Try.prog=P at *;generalize b.drop u=b' at *;rw[hbl'] at h3;simp only[hbl'] at hbits hleft;generalize hbl:b.length=bl at *;generalize cs.length=cl at *;generalize bst 256 b=RES at *;generalize qD cs (2^log.toNat)=A at *;generalize kbB cs log (2^log.toNat) N=B at *;generalize kbq cs log (2^log.toNat) N=C at *;have hby0:∀a o p l,byS A B C b' 0 a o p l=none:=fun _ _ _ _=>rfl
 have hbyS:∀f a o p l,byS A B C b' (f+1) a o p l=if p-B a.toNat<0 then some (l++[A a.toNat]++[A o.toNat]) else byS A B C b' f o (C a.toNat+rd b' p (B a.toNat).toNat) (p-B a.toNat) (l++[A a.toNat]):=fun _ _ _ _ _=>rfl
 generalize byS A B C b'=BY at *;generalize rd b'=RD at *;have h00:vc .neq 0 0=false:=by rw[qc];rfl
 have htu:vtoN (u:Int)=u:=by rw[qtoN];exact Int.toNat_natCast u
 have hcu:vcutN 0 u cap=if cap=u then 0 else 0+u:=by rw[qcutN]
 have hsu:vsubN bl u=bl-u:=by rw[qsubN]
 obtain⟨uI,huI⟩:∃uI:Int,uI=(u:Int):=⟨_,rfl⟩;rw[←huI] at h1 htu hu0 hu1;rw[←hcu] at hvd;rw[←hsu] at h3;simp only[←hsu] at hbits hleft;obtain⟨o1,ho1⟩:∃o1,o1=vcutN 0 u cap:=⟨_,rfl⟩;obtain⟨n1,hn1⟩:∃n1,n1=vsubN bl u:=⟨_,rfl⟩;rw[←ho1] at hvd;rw[←hn1] at h3;simp only[←hn1] at hbits hleft;obtain⟨pI,hpI⟩:∃pI:Int,pI=(P0:Int):=⟨_,rfl⟩;rw[←hpI] at h3 hres ha0 ho0;obtain⟨a0,ha0'⟩:∃a0,a0=RD pI log.toNat:=⟨_,rfl⟩;obtain⟨o0,ho0'⟩:∃o0,o0=RD (pI-log) log.toNat:=⟨_,rfl⟩;rw[←ha0',←ho0'] at hres;rw[←ha0'] at ha0;rw[←ho0'] at ho0;obtain⟨p1,hp1⟩:∃p1,p1=pI-log:=⟨_,rfl⟩;obtain⟨p2,hp2⟩:∃p2,p2=p1-log:=⟨_,rfl⟩;rw[←hp1] at ho0' hres;rw[←hp2] at hres;have hpb:pI<8*(n1:Int):=by omega
 have ewa:vw .i64 a0=a0:=by rw[qw];exact wrap_i64 (by omega) (by omega)
 have ewo:vw .i64 o0=o0:=by rw[qw];exact wrap_i64 (by omega) (by omega)
 cbv;refine ka (ρ:=[(0,.z)]) h1 ⟨by rfl,by rfl,by rfl,by cbv;exact⟨kb _,trivial⟩⟩ ?_
 rintro v H R js ⟨rfl,c1,rfl,rfl⟩;cbv;rw[h00];cbv;refine ka (ρ:=[(1,.z)]) (h2 c1) ⟨by rfl,by rfl,by rfl,by cbv;exact⟨kb _,trivial⟩⟩ ?_
 rintro v H R js ⟨rfl,rfl,rfl⟩;cbv;rw[h00];cbv;rw[htu,←ho1,←hn1];refine⟨fun _=>rfl,⟨hu0,hu1⟩,?_⟩
 refine CallX.cv f40.go (Cv.arrEq 2 (fun m=>[.int .u8 (A m),.int .u8 (B m),.int .u16 (C m)]) (by rfl) (by intro i;rfl) (Cv.here ?_)) (by rfl)
 refine ka (ρ:=[(0,.n o1)]) (h3 (vsubN cap u)) ⟨by rfl,by rfl,by rfl,by cbv;exact⟨fun _=>rfl,hvd,trivial⟩⟩ ?_
 rintro v H R js ⟨rfl,rfl,c2,rfl⟩;cbv;have hb1:=hbits c2 pI log (by((try simp only[nc] at *);omega)) (by((try simp only[nc] at *);omega)) (by((try simp only[nc] at *);omega)) (by((try simp only[nc] at *);omega));have hb2:=hbits c2 p1 log (by((try simp only[nc] at *);omega)) (by((try simp only[nc] at *);omega)) (by((try simp only[nc] at *);omega)) (by((try simp only[nc] at *);omega));rw[←ha0',←hp1] at hb1;rw[←ho0',←hp2] at hb2;have hlf:=hleft c2 p2;refine⟨fun _=>rfl,?_⟩
 refine ka (ρ:=[(4,.z),(3,.z)]) hb1 ⟨by rfl,by rfl,by rfl,by cbv;exact⟨fun _=>rfl,kb _,trivial⟩⟩ ?_
 rintro v H R js ⟨rfl,rfl,rfl⟩;cbv;rw[ewa];refine⟨fun _=>rfl,?_⟩
 refine ka (ρ:=[(4,.z),(3,.z)]) hb2 ⟨by rfl,by rfl,by rfl,by cbv;exact⟨fun _=>rfl,kb _,trivial⟩⟩ ?_
 rintro v H R js ⟨rfl,rfl,rfl⟩;cbv;rw[ewo];refine⟨fun _=>rfl,?_⟩
 refine ka (ρ:=[(4,.z),(3,.z)]) hlf ⟨by rfl,by rfl,by rfl,by cbv;exact⟨fun _=>rfl,kb _,trivial⟩⟩ ?_
 rintro v H R js ⟨rfl,rfl,rfl⟩;cbv;refine⟨fun _=>rfl,?_⟩
 generalize hz1:vc .lss p2 0=z1;cases z1
 rotate_left
 ·rw[qc,kf] at hz1;rw[if_pos hz1] at hres;cbv;exact⟨[0],.tup [.val (.slice none 0 0),.bool false],[.ro .u8 b],rfl,rfl,rfl,rfl,⟨rfl,trivial⟩,rfl,.inl ⟨hres,rfl,rfl⟩⟩
 rw[qc,ke] at hz1;rw[if_neg hz1] at hres;clear hb1 hb2 hlf;cbv;refine WX.cv (Cv.nilT 12 5 .u8 (by rfl) (by cbv;exact⟨fun _=>rfl,trivial⟩) (Cv.here ?_))
 cbv;refine kl (α:=Int×Int×Int×Nat×Nat×List Int) ([13]++[51,52,53,54,55,56,57,58,59,60,61,62,63,64,65,66,67,68,69,70,71,72,73,74,75,76,77,78,79,80,81,82,83,84]) [5]
  (fun(a,o,p,n,c,L)=>[(10,.int .i64 a),(11,.int .i64 o),(12,.slice 5 .z 1 n c)]) (fun(a,o,p,n,c,L)=>[(4,.one 143 [.slice 3 .z 1 n1 c2,.int .i64 p]),(5,.buf 5 .u8 L c)])
  (fun(a,o,p,n,c,L)=>∃f:Nat,f+n=256∧RES=BY f a o p L∧n=L.length∧0≤a∧a<N∧0≤o∧o<N∧0≤p∧p≤pI∧n≤c) (fun(a,o,p,n,c,L)=>257-n) hw hm ?_ ?_
 ·refine Cv.genAt [] [] (Cv.fold ([13]++[51,52,53,54,55,56,57,58,59,60,61,62,63,64,65,66,67,68,69,70,71,72,73,74,75,76,77,78,79,80,81,82,83,84]) 6 [5] (by exact Nat.le_refl _) (by exact Nat.le_of_ble_eq_true rfl) (by rfl) (by cbv) ?_)
  intro js;refine⟨(_,_,_,_,_,_),?_,js,rfl⟩
  exact⟨256,rfl,hres,rfl,ha0.1,by omega,ho0.1,by omega,by omega,by omega,Nat.le_refl _⟩
 ·rintro⟨a,o,p,n,c,L⟩ js ⟨f,hfn,hRS,hnL,ha1,ha2,ho1',ho2',hp0,hpp,hnc⟩;obtain⟨nI,hnI⟩:∃nI:Int,nI=(n:Int):=⟨_,rfl⟩;have en:vofN n=nI:=by rw[qofN,hnI]
  cbv;rw[en];generalize hz2:vc .leq nI 255=z2;cases z2
  ·rw[qc,ka2] at hz2;have hf0:f=0:=by((try simp only[nc] at *);omega)
   subst hf0;rw[hby0] at hRS;cbv;exact⟨[0],.tup [.val (.slice none 0 0),.bool false],[.ro .u8 b],rfl,rfl,rfl,rfl,⟨rfl,trivial⟩,rfl,.inl ⟨hRS,rfl,rfl⟩⟩
  rw[qc,kbR] at hz2;obtain⟨g,rfl⟩:∃g,f=g+1:=⟨f-1,by((try simp only[nc] at *);omega)⟩;rw[hbyS] at hRS;obtain⟨aN,haN⟩:∃aN:Nat,aN=a.toNat:=⟨_,rfl⟩;obtain⟨oN,hoN⟩:∃oN:Nat,oN=o.toNat:=⟨_,rfl⟩;have hta:vtoN a=aN:=by rw[qtoN,haN]
  have hto:vtoN o=oN:=by rw[qtoN,hoN]
  rw[←haN,←hoN] at hRS;have haNN:aN<N:=by omega
  have hoNN:oN<N:=by omega
  have hc1:=hcell aN haNN;have hA1:=hAu aN;have hA2:=hAu oN;have hbt:=hbits c2 p (B aN) (by omega) (by omega) (by omega) (by omega);have hrr:=hrb p (B aN).toNat;generalize hBa:B aN=Ba at *;generalize hCa:C aN=Ca at *;generalize hAa:A aN=Aa at *;generalize hAo:A oN=Ao at *;obtain⟨x,hx⟩:∃x,x=RD p Ba.toNat:=⟨_,rfl⟩;rw[←hx] at hbt hRS hrr;obtain⟨q,hq⟩:∃q,q=p-Ba:=⟨_,rfl⟩;rw[←hq] at hbt hRS;have hlf:=hleft c2 q;have ewB:vw .i64 Ba=Ba:=by rw[qw];exact wrap_i64 (by omega) (by omega)
  have ewC:vw .i64 Ca=Ca:=by rw[qw];exact wrap_i64 (by omega) (by omega)
  have ewx:vw .i64 x=x:=by rw[qw];exact wrap_i64 (by omega) (by omega)
  obtain⟨y,hy⟩:∃y,y=Ca+x:=⟨_,rfl⟩;have eay:vb .add .i64 Ca x=y:=by rw[qb,kh (by omega) (by omega)];exact hy.symm
  rw[←hy] at hRS;have hinA:0≤a∧a<(N:Int):=⟨ha1,ha2⟩;have hinO:0≤o∧o<(N:Int):=⟨ho1',ho2'⟩;have hln1:∀z:Int,vln [z]=1:=fun z=>by rw[qln];rfl
  have hlnL:∀l,vln l=l.length:=fun l=>by rw[qln]
  have haddq:∀a b,vaddN a b=a+b:=fun a b=>by rw[qaddN]
  have hont:vonto L n (vsub [Aa] 0 1)=L++[Aa]:=by rw[qonto,qsub,hnL];simp
  obtain⟨L2,hL2⟩:∃L2,L2=L++[Aa]:=⟨_,rfl⟩;rw[←hL2] at hont hRS;have hL2n:L2.length=n+1:=by rw[hL2,List.length_append,hnL];rfl
  have ha1':=haddq n 1;obtain⟨n2,hn2⟩:∃n2,n2=n+1:=⟨_,rfl⟩;rw[←hn2] at ha1' hL2n;have hn2b:n2*1≤140737488355328:=by((try simp only[nc] at *);omega)
  cbv;rw[hta,hBa,hCa,hAa];refine⟨⟨hinA⟩,⟨haNN⟩,⟨haNN⟩,⟨haNN⟩,fun _=>rfl,fun _=>rfl,⟨by rw[haddq,hln1];exact Nat.le_refl _⟩,⟨by rw[hlnL,←hnL];exact Nat.le_refl _⟩,⟨Nat.le_refl _⟩,⟨by rw[ha1'];exact hn2b⟩,fun _=>rfl,?_⟩
  intro c4 js4 hle;have hle':n2≤c4:=by have:=hle.out;simp only at this;rw[ha1'] at this;exact this
  cbv;rw[hont,ha1',ewB,ewC];refine ka (ρ:=[(4,.z),(3,.z)]) hbt ⟨by rfl,by rfl,by rfl,by cbv;exact⟨fun _=>rfl,kb _,trivial⟩⟩ ?_
  rintro v H R js5 ⟨rfl,rfl,rfl⟩;cbv;refine⟨fun _=>rfl,?_⟩
  rw[ewx,eay];refine ka (ρ:=[(4,.z),(3,.z)]) hlf ⟨by rfl,by rfl,by rfl,by cbv;exact⟨fun _=>rfl,kb _,trivial⟩⟩ ?_
  rintro v H R js6 ⟨rfl,rfl,rfl⟩;cbv;refine⟨fun _=>rfl,?_⟩
  generalize hz3:vc .lss q 0=z3;cases z3
  ·rw[qc,ke] at hz3;rw[if_neg hz3] at hRS;have hmu:∀_:Unit,257-n2<257-n:=fun _=>by((try simp only[nc] at *);omega)
   cbv;refine Cv.fold ([13]++[51,52,53,54,55,56,57,58,59,60,61,62,63,64,65,66,67,68,69,70,71,72,73,74,75,76,77,78,79,80,81,82,83,84]) 6 [5] (by exact Nat.le_refl _) (by exact Nat.le_of_ble_eq_true rfl) (by rfl) (by cbv) ?_
   intro js;refine⟨(_,_,_,_,_,_),?_,js,rfl⟩
   exact⟨⟨g,by omega,hRS,hL2n.symm,ho1',ho2',by omega,by omega,by omega,by omega,hle'⟩,hmu ()⟩
  ·rw[qc,kf] at hz3;rw[if_pos hz3] at hRS;have hont2:vonto L2 n2 (vsub [Ao] 0 1)=L2++[Ao]:=by rw[qonto,qsub,←hL2n];simp
   obtain⟨L3,hL3⟩:∃L3,L3=L2++[Ao]:=⟨_,rfl⟩;rw[←hL3] at hont2 hRS;have hL3n:L3.length=n2+1:=by rw[hL3,List.length_append,hL2n];rfl
   have ha2':=haddq n2 1;obtain⟨n3,hn3⟩:∃n3,n3=n2+1:=⟨_,rfl⟩;rw[←hn3] at ha2' hL3n;have hn3b:n3*1≤140737488355328:=by((try simp only[nc] at *);omega)
   cbv;rw[hto,hAo];refine⟨⟨hinO⟩,⟨hoNN⟩,fun _=>rfl,⟨by rw[haddq,hln1];exact Nat.le_refl _⟩,⟨by rw[hlnL,hL2n];exact Nat.le_refl _⟩,⟨Nat.le_refl _⟩,⟨by rw[ha2'];exact hn3b⟩,fun _=>rfl,?_⟩
   intro c5 js7 hle5;cbv;rw[hont2,ha2'];subst hL3n;exact⟨[0,5],.tup [.slice 1 .z 1 L3.length c5,.bool true],[.ro .u8 b,.buf 5 .u8 L3 c5],rfl,rfl,rfl,rfl,⟨rfl,rfl,trivial⟩,rfl,.inr ⟨L3,c5,hRS,rfl,rfl⟩⟩
def hnW (b:List Int):Int:=if 128≤b.getD 0 0 then(b.getD 0 0-126) / 2 else b.getD 0 0
def kcR (b:List Int) (k:Nat):Int:=if k % 2=0 then b.getD (1+k / 2) 0 / 16 else b.getD (1+k / 2) 0 % 16
def ka8 (b:List Int) (n:Nat):List Int:=(List.range n).map (kcR b)
theorem kdw (b:List Int) (n:Nat):(ka8 b n).length=n:=by simp[ka8]
theorem kmO (b:List Int) (n:Nat):ka8 b (n+1)=ka8 b n++[kcR b n]:=by simp[ka8,List.range_succ]
theorem kmP (b:List Int) {n m:Nat} (h:n≤m):(ka8 b m).take n=ka8 b n:=by
 unfold ka8;rw[←List.map_take,List.take_range];congr 2
 omega
def kg3 (F:Nat) (b:List Int):Option (List Int):=if 128≤b.getD 0 0 then some (ka8 b (b.getD 0 0-127).toNat) else bst F ((b.drop 1).take (b.getD 0 0).toNat)
def jR (b:List Int):Prop:=b.length=0∨(b.length:Int)-1<hnW b
def RdW (F:Nat) (b l:List Int):Prop:=∃t,kg3 F b=some t∧OkE t l
theorem kqJ {b:List Int} (hby:∀x∈b,isByte x) (k:Nat):0≤kcR b k∧kcR b k≤15:=by
 have h:=kat hby (1+k / 2);unfold isByte at h;unfold kcR;split<;>omega
theorem klq {b:List Int} (hby:∀x∈b,isByte x) (n:Nat):∀c∈ka8 b n,kv c:=by
 intro c hc;simp only[ka8,List.mem_map,List.mem_range] at hc;obtain⟨k,_,rfl⟩:=hc;have:=kqJ hby k;unfold kv;omega
theorem koI (b:List Int) (n cap:Nat) (hn:1+n≤b.length) (hc:b.length≤cap):kdP (if cap=1 then 0 else 0+1) ((b.drop 1).take n) b:=by
 have hlen:((b.drop 1).take n).length=n:=by rw[List.length_take,List.length_drop];omega
 refine⟨?_,fun i hi=>?_⟩
 ·rw[hlen];split<;>omega
 ·rw[hlen] at hi;rw[if_neg (by omega)];rw[List.getD_eq_getElem?_getD,List.getD_eq_getElem?_getD,List.getElem?_take,if_pos hi,List.getElem?_drop,Nat.zero_add]
theorem kmQ (b:List Int) (cap:Nat) (hby:∀x∈b,isByte x) (hl:b.length≤140737488355328) (hcap:b.length≤cap) (hcm:cap≤9223372036854775807) :
  Con Try.prog 20 [.slice 0 .z 1 b.length cap] [.ro .u8 b] (fun v H R=>R=[]∧((jR b∧H=[.ro .u8 b]∧v=.tup [.val (.slice none 0 0),.int .i64 0,.int .i64 10]) ∨
   (¬jR b∧(∀l,¬RdW 256 b l)∧H=[.ro .u8 b]∧v=.tup [.val (.slice none 0 0),.int .i64 0,.int .i64 11]) ∨
   (¬jR b∧∃l c',RdW 256 b l∧H=[.ro .u8 b,.buf 5 .u8 l c']∧v=.tup [.slice 1 .z 1 l.length c',.int .i64 (1+hnW b),.int .i64 0]))):=by
 have hh:=kat hby 0;unfold isByte at hh;obtain⟨h,hh0⟩:∃h,h=b.getD 0 0:=⟨_,rfl⟩;rw[←hh0] at hh;have hhn:hnW b=if 128≤h then(h-126) / 2 else h:=by unfold hnW;rw[←hh0]
 have htp:∀F,kg3 F b=if 128≤h then some (ka8 b (h-127).toNat) else bst F ((b.drop 1).take h.toNat):=fun F=>by unfold kg3;rw[←hh0]
 obtain⟨n,hn⟩:∃n,n=hnW b:=⟨_,rfl⟩;rw[←hn] at hhn;have hsh:jR b↔b.length=0∨(b.length:Int)-1<n:=by unfold jR;rw[←hn]
 rw[←hn];by_cases h0:b.length=0
 ·have hs:=hsh.2 (.inl h0);refine kj (kG (km (kg kr kpd ?_)))
  intro vb vc vw vtoN vofN vaddN vsubN vmaxI vminI vcutN vgd vst vln vrep vsub vonto vsplice vstrEq vbyteV vnotB veqB hw qb qc qw qtoN qofN qaddN qsubN qmaxI qminI qcutN qgd qst qln qrep qsub qonto qsplice qstrEq qbyteV qnotB qeqB;have hm:=kr;generalize Try.prog=P at *;generalize jR b=SH at *;generalize RdW 256 b=RW at *;generalize b.length=bl at *;subst h0;have e:vc .eql (vofN 0) 0=true:=by rw[qc,qofN];rfl
  cbv;rw[e];cbv;exact⟨[0],.tup [.val (.slice none 0 0),.lit .i64 0,.lit .i64 10],[.ro .u8 b],rfl,rfl,rfl,rfl,⟨rfl,trivial⟩,rfl,.inl ⟨hs,rfl,rfl⟩⟩
 by_cases h128:128≤h
 ·have hRW:∀l,RdW 256 b l↔OkE (ka8 b (h-127).toNat) l:=by
   intro l;unfold RdW;rw[htp,if_pos h128];exact⟨fun⟨t,h1,h2⟩=>by rw[Option.some.injEq] at h1;subst h1;exact h2,fun h=>⟨_,rfl,h⟩⟩
  rw[if_pos h128] at hhn;obtain⟨nN,hnN⟩:∃nN:Nat,n=nN:=⟨n.toNat,by omega⟩;obtain⟨kN,hkN⟩:∃kN:Nat,h-127=kN:=⟨(h-127).toNat,by omega⟩;rw[hkN,Int.toNat_natCast] at hRW;have hk2:kN≤2*nN∧2*nN≤kN+1∧kN≤128∧nN≤64:=by omega
  have hends:=fun(c cc:Nat) (h:c≤cc)=>kjq (ka8 b (2*nN)) kN c cc (klq hby _) (by rw[kdw];omega) h (by omega)
  rw[kmP b hk2.1] at hends;have hnl:∀k,(ka8 b k).length=k:=kdw b;have hns:∀k,ka8 b (k+1)=ka8 b k++[kcR b k]:=kmO b;have hnb:∀i,kcR b (2*i)=b.getD (1+i) 0 / 16∧kcR b (2*i+1)=b.getD (1+i) 0 % 16:=by
   intro i;unfold kcR;rw[if_pos (by omega),if_neg (by omega),show 2*i / 2=i by omega,show(2*i+1) / 2=i by omega];exact⟨rfl,rfl⟩
  have hbb:=kat hby;unfold isByte at hbb;refine kj (kG (km (kg kr kpd ?_)))
  intro vb vc vw vtoN vofN vaddN vsubN vmaxI vminI vcutN vgd vst vln vrep vsub vonto vsplice vstrEq vbyteV vnotB veqB hw qb qc qw qtoN qofN qaddN qsubN qmaxI qminI qcutN qgd qst qln qrep qsub qonto qsplice qstrEq qbyteV qnotB qeqB;have f17:=krj;have hm:=kr;generalize Try.prog=P at *;generalize jR b=SH at *;generalize RdW 256 b=RW at *;generalize kcR b=NB at *;have hnib0:ka8 b 0=[]:=rfl;generalize ka8 b=NBS at *;generalize OkE (NBS kN)=OK at *;generalize hbl:b.length=bl at *;have hgd:∀i,vgd b i=b.getD i 0:=fun i=>by rw[qgd]
  have hlnb:vln b=bl:=by simp only[qln,hbl]
  have hlnq:∀l,vln l=l.length:=fun l=>by rw[qln]
  have haddq:∀a b,vaddN a b=a+b:=fun a b=>by rw[qaddN]
  obtain⟨bI,hbI⟩:∃bI:Int,bI=bl:=⟨_,rfl⟩;have ebl:vofN bl=bI:=by rw[qofN,hbI]
  have e0:vc .eql bI 0=false:=by rw[qc,kx];omega
  have ewh:vw .i64 h=h:=by rw[qw];exact wrap_i64 (by omega) (by omega)
  have e128:vc .geq h 128=true:=by rw[qc,jb];exact h128
  have e128':vc .lss h 128=false:=by rw[qc,ke];omega
  have es1:vb .sub .i64 h 126=h-126:=by rw[qb,ky (by omega) (by omega)]
  have eq1:vb .quo .i64 (h-126) 2=n:=by rw[qb,j3 (by omega) (by omega) (by omega),hhn]
  have es2:vb .sub .i64 bI 1=bI-1:=by rw[qb,ky (by omega) (by omega)]
  have es3:vb .sub .i64 h 127=h-127:=by rw[qb,ky (by omega) (by omega)]
  have ea1:vb .add .i64 1 n=1+n:=by rw[qb,kh (by omega) (by omega)]
  obtain⟨h126,hh126⟩:∃x,x=h-126:=⟨_,rfl⟩;rw[←hh126] at es1 eq1;obtain⟨h127,hh127⟩:∃x,x=h-127:=⟨_,rfl⟩;rw[←hh127] at es3;obtain⟨bI1,hbI1⟩:∃x,x=bI-1:=⟨_,rfl⟩;rw[←hbI1] at es2;obtain⟨n1,hn1⟩:∃x,x=1+n:=⟨_,rfl⟩;rw[←hn1] at ea1 ⊢
  cbv;rw[ebl,e0];cbv;rw[haddq,hlnb,hgd,←hh0,ewh,e128];refine⟨⟨by omega,by omega⟩,⟨by omega⟩,⟨by omega⟩,?_⟩
  cbv;rw[es1,eq1,ebl,es2];generalize hz1:vc .lss bI1 n=z1;cases z1
  rotate_left
  ·rw[qc,kf] at hz1;cbv;exact⟨[0],.tup [.val (.slice none 0 0),.lit .i64 0,.lit .i64 10],[.ro .u8 b],rfl,rfl,rfl,rfl,⟨rfl,trivial⟩,rfl,.inl ⟨hsh.2 (.inr (by((try simp only[nc] at *);omega))),rfl,rfl⟩⟩
  rw[qc,ke] at hz1;have hnsh:¬SH:=fun h=>by rcases hsh.1 h with h|h<;>((try simp only[nc] at *);omega)
  have htn1:vtoN n1=1+nN:=by simp only[qtoN,hn1,hnN];((try simp only[nc] at *);omega)
  have hcut:vcutN 0 1 cap=1:=by rw[qcutN];simp only;rw[if_neg (by((try simp only[nc] at *);omega))]
  have hsb1:vsubN (1+nN) 1=nN:=by rw[qsubN];simp only;omega
  cbv;rw[e128'];cbv;rw[ea1,htn1,hcut,hsb1];refine⟨⟨by((try simp only[nc] at *);omega),by((try simp only[nc] at *);omega)⟩,⟨by omega,by omega⟩,?_⟩
  refine WX.cv (Cv.nilT 7 5 .u8 (by rfl) (by cbv;try exact⟨fun _=>rfl,trivial⟩) (Cv.here ?_))
  obtain⟨nI,hnI⟩:∃nI:Int,nI=(nN:Int):=⟨_,rfl⟩;have enN:vofN nN=nI:=by rw[qofN,hnI]
  obtain⟨c1,hc1⟩:∃c1,c1=vsubN cap 1:=⟨_,rfl⟩;cbv;rw[←hc1,enN];refine kl (α:=Int×Nat×Nat×List Int) ([10]++[45,46,47,48,49,50,51,52,53,54,55]) [1] (fun(k,m,c,L)=>[(44,.int .i64 k),(7,.slice 1 .z 1 m c)]) (fun(k,m,c,L)=>[(1,.buf 5 .u8 L c)])
   (fun(k,m,c,L)=>∃i:Nat,k=i∧i≤nN∧L=NBS (2*i)∧m=2*i∧m≤c) (fun(k,_)=>nN-k.toNat) hw hm ?_ ?_
  ·refine Cv.genAt [44] [] (Cv.fold ([10]++[45,46,47,48,49,50,51,52,53,54,55]) 2 [1] (by exact Nat.le_refl _) (by exact Nat.le_of_ble_eq_true rfl) (by rfl) (by cbv) ?_)
   intro js;refine⟨(_,_,_,_),?_,js,rfl⟩
   exact⟨0,rfl,by omega,hnib0.symm,rfl,Nat.le_refl _⟩
  ·rintro⟨k,m,c,L⟩ js ⟨i,hk,hi,hL,hm2,hmc⟩;cbv;generalize hz2:vc .lss k nI=z2;cases z2
   rotate_left
   ·rw[qc,kf] at hz2;have hlt:i<nN:=by((try simp only[nc] at *);omega)
    have hti:vtoN k=i:=by rw[qtoN,hk];exact Int.toNat_natCast i
    have hinR:0≤k∧k<(nN:Int):=by((try simp only[nc] at *);omega)
    obtain⟨k1,hk1⟩:∃k1:Int,k1=((i+1:Nat):Int):=⟨_,rfl⟩;have ek1:vb .add .i64 k 1=k1:=by(try simp only[nc] at *);rw[qb,kh (by omega) (by omega)];omega
    have hmu:∀_:Unit,nN-k1.toNat<nN-k.toNat:=fun _=>by((try simp only[nc] at *);omega)
    have hb1:=hbb (1+i);obtain⟨hn1',hn2'⟩:=hnb i;have hs1:=hns (2*i);have hs2:=hns (2*i+1);rw[hs1,List.append_assoc,hn1',hn2',←hL] at hs2;generalize hxx:b.getD (1+i) 0=x at *;obtain⟨x1,hx1⟩:∃x1,x1=x / 16:=⟨_,rfl⟩;obtain⟨x2,hx2⟩:∃x2,x2=x % 16:=⟨_,rfl⟩;have e1:vb .shr .u8 x 4=x1:=by rw[qb,jO (by decide),hx1];rfl
    have e2:vb .and .u8 x 15=x2:=by rw[qb,hx2,show(15:Int)=2^4-1 by decide,jY rfl 4 (by decide) hb1.1 (by show x<256;omega)];rfl
    rw[←hx1,←hx2] at hs2;obtain⟨L2,hL2⟩:∃L2,L2=NBS (2*i+1+1):=⟨_,rfl⟩;rw[←hL2] at hs2;have hont:vonto L m (vsub [x1,x2] 0 2)=L2:=by
     have hl2:L.length=m:=by rw[hL,hm2];exact hnl _
     rw[hs2,qonto,qsub,←hl2];simp
    have hln2:vln [x1,x2]=2:=by rw[qln];rfl
    have hlL:L.length=m:=by rw[hL,hm2];exact hnl _
    have ha2:=haddq m 2;obtain⟨m2,hm2'⟩:∃m2,m2=m+2:=⟨_,rfl⟩;rw[←hm2'] at ha2;have hm2b:m2*1≤140737488355328:=by omega
    have hlt2:1+i<bl:=by((try simp only[nc] at *);omega)
    cbv;rw[hti,haddq,hgd,hlnb,hxx,e1,e2];refine⟨⟨hinR⟩,⟨hlt2⟩,⟨hlt2⟩,⟨by rw[haddq,hln2];exact Nat.le_refl _⟩,⟨by rw[hlnq,hlL];exact Nat.le_refl _⟩,⟨Nat.le_refl _⟩,⟨by rw[ha2];exact hm2b⟩,?_⟩
    intro c2 js2 hle;have hle':m2≤c2:=by have:=hle.out;simp only at this;rw[ha2] at this;exact this
    cbv;rw[hont,ha2,ek1];refine Cv.fold ([10]++[45,46,47,48,49,50,51,52,53,54,55]) 2 [1] (by exact Nat.le_refl _) (by exact Nat.le_of_ble_eq_true rfl) (by rfl) (by cbv) ?_
    intro js;refine⟨(_,_,_,_),?_,js,rfl⟩
    exact⟨⟨i+1,hk1,hlt,hL2,by omega,hle'⟩,hmu ()⟩
   ·rw[qc,ke] at hz2;have hin:i=nN:=by((try simp only[nc] at *);omega)
    subst hin;have hth:vtoN h127=kN:=by rw[qtoN,hh127,hkN];exact Int.toNat_natCast kN
    have hec:=hends c c (Nat.le_refl _);rw[←hL] at hec;have hnt:vnotB true=false:=by rw[qnotB];rfl
    have hnf:vnotB false=true:=by rw[qnotB];rfl
    cbv;rw[es3,hth];refine⟨⟨by((try simp only[nc] at *);omega),by((try simp only[nc] at *);omega)⟩,?_⟩
    refine ka (ρ:=[(1,.z)]) hec ⟨by rfl,by rfl,by rfl,by cbv⟩ ?_
    rintro v H R js3 ⟨rfl,⟨l,c3,hok,rfl,rfl⟩|⟨hno,l3,c3,rfl,rfl|⟨n3,rfl⟩⟩⟩
    ·obtain⟨ll,hll⟩:∃ll,ll=l.length:=⟨_,rfl⟩;rw[←hll];cbv;rw[hnt];cbv;rw[ea1];subst hll;exact⟨[0,1],.tup [.slice 1 .z 1 l.length c3,.int .i64 n1,.lit .i64 0],[.ro .u8 b,.buf 5 .u8 l c3],rfl,rfl,rfl,rfl,⟨rfl,rfl,trivial⟩,rfl,.inr (.inr ⟨hnsh,l,c3,(hRW l).2 hok,rfl,rfl⟩)⟩
    ·cbv;rw[hnf];cbv;exact⟨[0],.tup [.val (.slice none 0 0),.lit .i64 0,.lit .i64 11],[.ro .u8 b],rfl,rfl,rfl,rfl,⟨rfl,trivial⟩,rfl,.inr (.inl ⟨hnsh,fun l h=>hno l ((hRW l).1 h),rfl,rfl⟩)⟩
    ·cbv;rw[hnf];cbv;exact⟨[0],.tup [.val (.slice none 0 0),.lit .i64 0,.lit .i64 11],[.ro .u8 b],rfl,rfl,rfl,rfl,⟨rfl,trivial⟩,rfl,.inr (.inl ⟨hnsh,fun l h=>hno l ((hRW l).1 h),rfl,rfl⟩)⟩
 ·have hRW:∀l,RdW 256 b l↔∃t,bst 256 ((b.drop 1).take h.toNat)=some t∧OkE t l:=by
   intro l;unfold RdW;rw[htp,if_neg h128]
  rw[if_neg h128] at hhn;obtain⟨nN,hnN⟩:∃nN:Nat,n=nN:=⟨n.toNat,by omega⟩;have hht:h.toNat=nN:=by omega
  rw[hht] at hRW;by_cases hs1:(b.length:Int)-1<n
  ·have hs:=hsh.2 (.inr hs1);refine kj (kG (km (kg kr kpd ?_)))
   intro vb vc vw vtoN vofN vaddN vsubN vmaxI vminI vcutN vgd vst vln vrep vsub vonto vsplice vstrEq vbyteV vnotB veqB hw qb qc qw qtoN qofN qaddN qsubN qmaxI qminI qcutN qgd qst qln qrep qsub qonto qsplice qstrEq qbyteV qnotB qeqB;have hm:=kr;generalize Try.prog=P at *;generalize jR b=SH at *;generalize RdW 256 b=RW at *;generalize hbl:b.length=bl at *;have hgd:∀i,vgd b i=b.getD i 0:=fun i=>by rw[qgd]
   have hlnb:vln b=bl:=by simp only[qln,hbl]
   have haddq:∀a b,vaddN a b=a+b:=fun a b=>by rw[qaddN]
   obtain⟨bI,hbI⟩:∃bI:Int,bI=bl:=⟨_,rfl⟩;have ebl:vofN bl=bI:=by rw[qofN,hbI]
   have e0:vc .eql bI 0=false:=by rw[qc,kx];omega
   have ewh:vw .i64 h=h:=by rw[qw];exact wrap_i64 (by omega) (by omega)
   have e128:vc .geq h 128=false:=by rw[qc,kO];exact h128
   have es2:vb .sub .i64 bI 1=bI-1:=by rw[qb,ky (by omega) (by omega)]
   obtain⟨bI1,hbI1⟩:∃x,x=bI-1:=⟨_,rfl⟩;rw[←hbI1] at es2;have hz1:vc .lss bI1 h=true:=by rw[qc,kf];omega
   cbv;rw[ebl,e0];cbv;rw[haddq,hlnb,hgd,←hh0,ewh,e128];refine⟨⟨by omega,by omega⟩,⟨by omega⟩,⟨by omega⟩,?_⟩
   cbv;rw[ebl,es2,hz1];cbv;exact⟨[0],.tup [.val (.slice none 0 0),.lit .i64 0,.lit .i64 10],[.ro .u8 b],rfl,rfl,rfl,rfl,⟨rfl,trivial⟩,rfl,.inl ⟨hs,rfl,rfl⟩⟩
  have hnsh0:¬jR b:=fun h=>by rcases hsh.1 h with h|h<;>omega
  have hml:((b.drop 1).take nN).length=nN:=by rw[List.length_take,List.length_drop];omega
  have hmb:∀x∈(b.drop 1).take nN,isByte x:=fun x hx=>hby x (List.mem_of_mem_drop (List.mem_of_mem_take hx))
  have hvm:=koI b nN cap (by omega) hcap;have hbs:=fun c h=>kdv ((b.drop 1).take nN) c hmb (by omega) h
  rw[hml] at hbs;have hu8:=fun L=>@kga 256 ((b.drop 1).take nN) L
  have hends:=fun(L:List Int) (c cc:Nat) (hL:bst 256 ((b.drop 1).take nN)=some L) (h:c≤cc)=>kjq L L.length c cc (kga hL).1 (Nat.le_refl _) h (by have:=(kga hL).2;omega)
  simp only[List.take_length] at hends;refine kj (kG (km (kg kr kpd ?_)))
  intro vb vc vw vtoN vofN vaddN vsubN _ _ vcutN vgd _ vln _ _ _ _ _ _ vnotB _ _ qb qc qw qtoN qofN qaddN qsubN _ _ qcutN qgd _ qln _ _ _ _ _ _ qnotB _;have hm:=kr;generalize Try.prog=P at *;generalize jR b=SH at *;generalize RdW 256 b=RW at *;generalize bst 256 ((b.drop 1).take nN)=RES at *;generalize (b.drop 1).take nN=b1 at *;generalize hOE:OkE=OE at *;generalize hbl:b.length=bl at *;have hgd:∀i,vgd b i=b.getD i 0:=fun i=>by rw[qgd]
  have hlnb:vln b=bl:=by simp only[qln,hbl]
  have haddq:∀a b,vaddN a b=a+b:=fun a b=>by rw[qaddN]
  obtain⟨bI,hbI⟩:∃bI:Int,bI=bl:=⟨_,rfl⟩;have ebl:vofN bl=bI:=by rw[qofN,hbI]
  have e0:vc .eql bI 0=false:=by rw[qc,kx];omega
  have ewh:vw .i64 h=h:=by rw[qw];exact wrap_i64 (by omega) (by omega)
  have e128:vc .geq h 128=false:=by rw[qc,kO];exact h128
  have e128':vc .lss h 128=true:=by rw[qc,kf];omega
  have es2:vb .sub .i64 bI 1=bI-1:=by rw[qb,ky (by omega) (by omega)]
  obtain⟨bI1,hbI1⟩:∃x,x=bI-1:=⟨_,rfl⟩;rw[←hbI1] at es2;have hz1:vc .lss bI1 h=false:=by rw[qc,ke];omega
  have ea1:vb .add .i64 1 h=1+n:=by rw[qb,kh (by omega) (by omega),hhn]
  obtain⟨n1,hn1⟩:∃x,x=1+n:=⟨_,rfl⟩;rw[←hn1] at ea1 ⊢
  have htn1:vtoN n1=1+nN:=by simp only[qtoN,hn1,hnN];((try simp only[nc] at *);omega)
  have hcut:vcutN 0 1 cap=if cap=1 then 0 else 0+1:=by rw[qcutN]
  have hsb1:vsubN (1+nN) 1=nN:=by rw[qsubN];simp only;omega
  have hcp:nN≤vsubN cap 1:=by rw[qsubN];simp only;omega
  rw[←hcut] at hvm;obtain⟨o1,ho1⟩:∃o1,o1=vcutN 0 1 cap:=⟨_,rfl⟩;rw[←ho1] at hvm;obtain⟨c1,hc1⟩:∃c1,c1=vsubN cap 1:=⟨_,rfl⟩;rw[←hc1] at hcp;have hbs1:=hbs c1 hcp;have hnt:vnotB true=false:=by rw[qnotB];rfl
  have hnf:vnotB false=true:=by rw[qnotB];rfl
  cbv;rw[ebl,e0];cbv;rw[haddq,hlnb,hgd,←hh0,ewh,e128];refine⟨⟨by omega,by omega⟩,⟨by omega⟩,⟨by omega⟩,?_⟩
  cbv;rw[ebl,es2,hz1];cbv;rw[e128'];cbv;rw[ea1,htn1,←ho1,hsb1,←hc1];refine⟨⟨by((try simp only[nc] at *);omega),by((try simp only[nc] at *);omega)⟩,⟨by omega,by((try simp only[nc] at *);omega)⟩,?_⟩
  refine ka (ρ:=[(0,.n o1)]) hbs1 ⟨by rfl,by rfl,by rfl,by cbv;exact⟨hvm,trivial⟩⟩ ?_
  rintro v H R js ⟨rfl,⟨hres,rfl,rfl⟩|⟨L,c2,hres,rfl,rfl⟩⟩
  ·cbv;rw[hnf];cbv;have hno:∀l,¬RW l:=fun l h=>by
    obtain⟨t,h1,_⟩:=(hRW l).1 h;rw[hres] at h1;cases h1
   exact⟨[0],.tup [.val (.slice none 0 0),.lit .i64 0,.lit .i64 11],[.ro .u8 b],rfl,rfl,rfl,rfl,⟨rfl,trivial⟩,rfl,.inr (.inl ⟨hnsh0,hno,rfl,rfl⟩)⟩
  ·have hec:=hends L c2 c2 hres (Nat.le_refl _);have hRW':∀l,RW l↔OE L l:=fun l=>by
    rw[hRW,hres];exact⟨fun⟨t,h1,h2⟩=>by rw[Option.some.injEq] at h1;subst h1;exact h2,fun h=>⟨_,rfl,h⟩⟩
   obtain⟨Ln,hLn⟩:∃Ln,Ln=L.length:=⟨_,rfl⟩;rw[←hLn] at hec ⊢
   generalize OE L=OK at *;cbv;refine ka (ρ:=[(1,.z)]) hec ⟨by rfl,by rfl,by rfl,by cbv⟩ ?_
   rintro v H R js3 ⟨rfl,⟨l,c3,hok,rfl,rfl⟩|⟨hno,l3,c3,rfl,rfl|⟨n3,rfl⟩⟩⟩
   ·obtain⟨ll,hll⟩:∃ll,ll=l.length:=⟨_,rfl⟩;rw[←hll];cbv;rw[hnt];cbv;rw[ea1];subst hll;exact⟨[0,1],.tup [.slice 1 .z 1 l.length c3,.int .i64 n1,.lit .i64 0],[.ro .u8 b,.buf 5 .u8 l c3],rfl,rfl,rfl,rfl,⟨rfl,rfl,trivial⟩,rfl,.inr (.inr ⟨hnsh0,l,c3,(hRW' l).2 hok,rfl,rfl⟩)⟩
   ·cbv;rw[hnf];cbv;exact⟨[0],.tup [.val (.slice none 0 0),.lit .i64 0,.lit .i64 11],[.ro .u8 b],rfl,rfl,rfl,rfl,⟨rfl,trivial⟩,rfl,.inr (.inl ⟨hnsh0,fun l h=>hno l ((hRW' l).1 h),rfl,rfl⟩)⟩
   ·cbv;rw[hnf];cbv;exact⟨[0],.tup [.val (.slice none 0 0),.lit .i64 0,.lit .i64 11],[.ro .u8 b],rfl,rfl,rfl,rfl,⟨rfl,trivial⟩,rfl,.inr (.inl ⟨hnsh0,fun l h=>hno l ((hRW' l).1 h),rfl,rfl⟩)⟩
theorem RdW.uniq {F:Nat} {b l l':List Int} (h:RdW F b l) (h':RdW F b l'):l=l':=by
 obtain⟨t,h1,h2⟩:=h;obtain⟨t',h3,h4⟩:=h';rw[h1,Option.some.injEq] at h3;subst h3;exact h2.uniq h4
theorem kqK {F:Nat} {b l:List Int} (hby:∀x∈b,isByte x) (h:RdW F b l):(∀c∈l,kv c)∧l.length≤256∧∃M,Wt l M:=by
 obtain⟨t,ht,h1,h2,_,⟨k,_,rfl⟩,M,hW⟩:=h;have htu:∀c∈t,kv c:=by
  unfold kg3 at ht;split at ht
  ·rw[Option.some.injEq] at ht;rw[←ht];exact klq hby _
  ·exact(kga ht).1
 refine⟨fun c hc=>?_,by rw[List.length_append,List.length_singleton];omega,M,hW⟩
 rcases List.mem_append.1 hc with hc|hc
 ·exact htu c hc
 ·rw[List.mem_singleton] at hc;have:=hW.2.2.2.1 t.length (by rw[List.length_append,List.length_singleton];omega);rw[List.getD_eq_getElem?_getD,List.getElem?_append_right (Nat.le_refl _),Nat.sub_self] at this;simp only[List.getElem?_cons_zero,Option.getD_some] at this;unfold kv;omega
theorem kqL {b:List Int} (hby:∀x∈b,isByte x):0≤hnW b:=by
 have h:=kat hby 0;unfold isByte at h;unfold hnW;split<;>omega
open Classical in
noncomputable def rdw (c:List Int):Option (List Int):=if h:¬jR c∧∃l,RdW 256 c l then some h.2.choose else none
theorem kgb {c l:List Int} (h:¬jR c) (hl:RdW 256 c l):rdw c=some l:=by
 have hh:¬jR c∧∃l,RdW 256 c l:=⟨h,l,hl⟩;unfold rdw;rw[dif_pos hh,RdW.uniq hh.2.choose_spec hl]
theorem kmR {c:List Int} (h:jR c):rdw c=none:=dif_neg (fun k=>k.1 h)
theorem kpF {c:List Int} (h:∀l,¬RdW 256 c l):rdw c=none:=dif_neg (fun k=>h _ k.2.choose_spec)
theorem koJ {c l:List Int} (h:rdw c=some l):¬jR c∧RdW 256 c l:=by
 unfold rdw at h;split at h
 ·rename_i hh;rw[Option.some.injEq] at h;rw[←h];exact⟨hh.1,hh.2.choose_spec⟩
 ·cases h
theorem klr (c:List Int) (cap:Nat) (hb:∀x∈c,kv x) (hl:c.length≤140737488355328) (hcap:c.length≤cap) (hcm:cap≤9223372036854775807) :
  Con Try.prog 20 [.slice 0 .z 1 c.length cap] [.ro .u8 c] (fun v H R=>R=[]∧((∃e:Int,e≠0∧rdw c=none∧H=[.ro .u8 c]∧v=.tup [.val (.slice none 0 0),.int .i64 0,.int .i64 e]) ∨
   ∃l c',rdw c=some l∧H=[.ro .u8 c,.buf 5 .u8 l c']∧v=.tup [.slice 1 .z 1 l.length c',.int .i64 (1+hnW c),.int .i64 0])):=by
 refine(kmQ c cap (kaj hb) hl hcap hcm).mono ?_
 rintro v H R ⟨rfl,⟨h1,rfl,rfl⟩|⟨h1,h2,rfl,rfl⟩|⟨h1,l,c',h2,rfl,rfl⟩⟩
 ·exact⟨rfl,.inl ⟨10,by decide,kmR h1,rfl,rfl⟩⟩
 ·exact⟨rfl,.inl ⟨11,by decide,kpF h2,rfl,rfl⟩⟩
 ·exact⟨rfl,.inr ⟨l,c',kgb h1 h2,rfl,rfl⟩⟩
inductive koK where
 |bad (e:Int)
 |keep (L:List Int) (u:Int)
 |rep (x:Int) (n:Nat) (u:Int)
 |own (L l:List Int) (u:Int)
def bhH (b:List Int):Int:=if kdH b=0 then szH b else if kdH b=1 then 1 else pkH b
def kept (u:Int):Option (List Int)→koK
 |none=>.bad 11
 |some L=>.keep L u
def owned (l:List Int) (u:Int):Option (List Int)→koK
 |none=>.bad 11
 |some L=>.own L l u
noncomputable def kaz (kd sz rw u:Int) (c w:List Int):koK:=
 if kd=0 then .keep c u else if kd=1 then .rep (c.getD 0 0) sz.toNat u
 else if kd=2 then match rdw c with
  |none=>.bad 11
  |some l=>owned l u (qa l (c.drop (1+hnW c).toNat) sz rw)
 else kept u (qa w c sz rw)
noncomputable def RdL (b w:List Int) (most:Int):koK:=
 if most<0∨131072<most then .bad 2 else if b.length=0 then .bad 10 else if (b.length:Int)<usH b then .bad 10
 else if most<szH b then .bad 11 else if (b.length:Int)<usH b+bhH b then .bad 10
 else kaz (kdH b) (szH b) (rwH b) (usH b+bhH b) (seg b (usH b) (bhH b).toNat) w
theorem koL (b:List Int):0≤szH b:=by
 unfold szH;exact Int.emod_nonneg _ (Int.ne_of_gt (Int.pow_pos (by decide)))
theorem koM (b:List Int):1≤btH b∧btH b≤20:=by
 unfold btH;split<;>split<;>first|omega|(split<;>omega)
theorem kg4 {b:List Int} (hb:∀c∈b,kv c):0≤pkH b∧pkH b≤262143:=by
 unfold pkH;split
 ·omega
 ·rename_i hk;have hf:=kfH hb;rcases(show fmH b=0∨fmH b=1∨fmH b=2∨fmH b=3 by omega) with hf|hf|hf|hf
  ·have h:=jQ hb 3;rw[show nmH b=j4 b 3 / 16 by unfold nmH usH;rw[if_neg hk,hf];rfl,show btH b=10 by unfold btH;rw[if_neg hk,hf];rfl,show(2:Int)^10=1024 by decide];rw[show(2:Int)^(8*3)=16777216 by decide] at h;omega
  ·have h:=jQ hb 3;rw[show nmH b=j4 b 3 / 16 by unfold nmH usH;rw[if_neg hk,hf];rfl,show btH b=10 by unfold btH;rw[if_neg hk,hf];rfl,show(2:Int)^10=1024 by decide];rw[show(2:Int)^(8*3)=16777216 by decide] at h;omega
  ·have h:=jQ hb 4;rw[show nmH b=j4 b 4 / 16 by unfold nmH usH;rw[if_neg hk,hf];rfl,show btH b=14 by unfold btH;rw[if_neg hk,hf];rfl,show(2:Int)^14=16384 by decide];rw[show(2:Int)^(8*4)=4294967296 by decide] at h;omega
  ·have h:=jQ hb 5;rw[show nmH b=j4 b 5 / 16 by unfold nmH usH;rw[if_neg hk,hf];rfl,show btH b=18 by unfold btH;rw[if_neg hk,hf];rfl,show(2:Int)^18=262144 by decide];rw[show(2:Int)^(8*5)=1099511627776 by decide] at h;omega
theorem kgp {b:List Int} {o n h x:Nat} (hn:o+n≤b.length) (hh:h≤n) (hx:x=o+h∨h=n∧x≤b.length):kdP x ((seg b o n).drop h) b:=by
 have hl:((seg b o n).drop h).length=n-h:=by rw[List.length_drop,qz hn]
 refine⟨?_,fun i hi=>?_⟩
 ·rw[hl];omega
 ·rw[hl] at hi;rw[List.getD_eq_getElem?_getD,List.getElem?_drop,←List.getD_eq_getElem?_getD,ke4 b o (by omega)];rcases hx with rfl|⟨rfl,_⟩
  ·rw[Nat.add_assoc]
  ·omega
theorem qR (b w:List Int) (most:Int) :
  (most<0∨131072<most→RdL b w most=.bad 2)∧(¬(most<0∨131072<most)→b.length=0→RdL b w most=.bad 10) ∧
  (¬(most<0∨131072<most)→¬b.length=0→(b.length:Int)<usH b→RdL b w most=.bad 10) ∧
  (¬(most<0∨131072<most)→¬b.length=0→¬(b.length:Int)<usH b→most<szH b→RdL b w most=.bad 11) ∧
  (¬(most<0∨131072<most)→¬b.length=0→¬(b.length:Int)<usH b→¬most<szH b→(b.length:Int)<usH b+bhH b→RdL b w most=.bad 10) ∧
  (¬(most<0∨131072<most)→¬b.length=0→¬(b.length:Int)<usH b→¬most<szH b→¬(b.length:Int)<usH b+bhH b →
   RdL b w most=kaz (kdH b) (szH b) (rwH b) (usH b+bhH b) (seg b (usH b) (bhH b).toNat) w):=by
 unfold RdL;refine⟨fun h=>if_pos h,fun h h1=>?_,fun h h1 h2=>?_,fun h h1 h2 h3=>?_,fun h h1 h2 h3 h4=>?_,fun h h1 h2 h3 h4=>?_⟩
 ·rw[if_neg h,if_pos h1]
 ·rw[if_neg h,if_neg h1,if_pos h2]
 ·rw[if_neg h,if_neg h1,if_neg h2,if_pos h3]
 ·rw[if_neg h,if_neg h1,if_neg h2,if_neg h3,if_pos h4]
 ·rw[if_neg h,if_neg h1,if_neg h2,if_neg h3,if_neg h4]
set_option maxRecDepth 100000 in
set_option maxHeartbeats 4000000 in
theorem kmS (K N:Nat) (hK:K≤3) (hN:N<32) :
  Con Try.prog 50 [.int .u8 (K:Int),.int .i64 (N:Int)] [] (fun v H R=>R=[]∧v=.slice 0 .z 1 1 1∧H=[.ints 5 .u8 [((N*8+K:Nat):Int)]]):=by
 refine kj (kG (km (kg kr kqo ?_)))
 intro vb vc vw _ _ _ _ _ _ _ _ _ _ _ _ _ _ _ _ _ _ _ qb qc qw _ _ _ _ _ _ _ _ _ _ _ _ _ _ _ _ _ _;have hm:=kr;generalize Try.prog=P at *;obtain⟨KI,hKI⟩:∃KI:Int,KI=K:=⟨_,rfl⟩;obtain⟨NI,hNI⟩:∃NI:Int,NI=N:=⟨_,rfl⟩;obtain⟨r,hr⟩:∃r:Int,r=((N*8+K:Nat):Int):=⟨_,rfl⟩;rw[←hKI,←hNI,←hr];have e1:vc .lss NI 32=true:=by rw[qc,kf];omega
 have e2:vb .or .u8 (vb .shl .u8 (vw .u8 NI) 3) KI=r:=by
  rw[qb,qw,hNI,hKI,hr];have:∀n:Fin 32,∀k:Fin 4,bV .or .u8 (bV .shl .u8 (IntKind.u8.wrap (n.val:Int)) 3) (k.val:Int)=((n.val*8+k.val:Nat):Int):=by decide
  exact this ⟨N,hN⟩ ⟨K,by omega⟩
 cbv;rw[e1];cbv;rw[e2];exact⟨[0],.slice 0 .z 1 1 1,[.ints 5 .u8 [r]],rfl,rfl,rfl,rfl,⟨rfl,trivial⟩,rfl,rfl,rfl⟩
theorem kcS {a b k:Nat} (hb:b<2^k) (h:a*2^k+b<18446744073709551616):bV .or .u64 ((a*2^k:Nat):Int) (b:Int)=((a*2^k+b:Nat):Int):=by
 have e:a*2^k |||b=a*2^k+b:=by rw[←Nat.shiftLeft_eq,←Nat.shiftLeft_add_eq_or_of_lt hb]
 have h1:a*2^k<18446744073709551616:=by omega
 have h2:b<18446744073709551616:=by omega
 have hw:∀x:Nat,x<18446744073709551616→IntKind.u64.wrap (x:Int)=x:=fun x hx=>wrap_u64 (by omega) (by omega)
 show IntKind.u64.wrap ((BitVec.ofInt 64 ((a*2^k:Nat):Int) |||BitVec.ofInt 64 (b:Int)).toNat:Int)=_
 rw[BitVec.toNat_or,BitVec.ofInt_natCast,BitVec.ofInt_natCast,BitVec.toNat_ofNat,BitVec.toNat_ofNat,Nat.mod_eq_of_lt h1,Nat.mod_eq_of_lt h2,e,hw _ h]
theorem kdx {a k:Nat} (hk:k<64) (h:a*2^k<18446744073709551616):bV .shl .u64 (a:Int) (k:Int)=((a*2^k:Nat):Int):=by
 show IntKind.u64.wrap ((a:Int)*2^min (k:Int).toNat IntKind.u64.bits)=_
 rw[show min (k:Int).toNat IntKind.u64.bits=k by show min (k:Int).toNat 64=k;omega,show(a:Int)*2^k=((a*2^k:Nat):Int) by push_cast;rfl];exact wrap_u64 (by omega) (by omega)
set_option maxRecDepth 100000 in
set_option maxHeartbeats 4000000 in
theorem kkD (K N:Nat) (hK:K≤3) (hN:32≤N∧N<4096) :
  Con Try.prog 50 [.int .u8 (K:Int),.int .i64 (N:Int)] [] (fun v H R=>R=[]∧∃c',2≤c'∧v=.slice 0 .z 1 2 c'∧H=[.buf 5 .u8 (leB ((N*16+4+K:Nat):Int) 2) c']):=by
 have hput:=kd5 ((N*16+4+K:Nat):Int) 2 (by omega) (by omega);refine kj (kG (km (kg kr kqo ?_)))
 intro vb vc vw _ _ _ _ _ _ _ _ _ _ _ _ _ _ _ _ _ _ _ qb qc qw _ _ _ _ _ _ _ _ _ _ _ _ _ _ _ _ _ _;have hm:=kr;generalize Try.prog=P at *;obtain⟨KI,hKI⟩:∃KI:Int,KI=K:=⟨_,rfl⟩;obtain⟨NI,hNI⟩:∃NI:Int,NI=N:=⟨_,rfl⟩;obtain⟨r,hr⟩:∃r:Int,r=((N*16+4+K:Nat):Int):=⟨_,rfl⟩;rw[←hKI,←hNI];rw[←hr] at hput ⊢
 have hput:Con P 81 [.val (.slice none 0 0),.int .u64 r,.int .i64 2] [] (fun v H R=>R=[]∧∃c',2≤c'∧v=.slice 0 .z 1 2 c'∧H=[.buf 5 .u8 (leB r 2) c']):=hput;generalize leB r 2=LL at *;have e1:vc .lss NI 32=false:=by rw[qc,ke];omega
 have e3:vc .lss NI 4096=true:=by rw[qc,kf];omega
 have e2:vb .or .u64 (vb .or .u64 (vb .shl .u64 (vw .u64 NI) 4) 4) (vw .u64 KI)=r:=by
  have w1:IntKind.u64.wrap (N:Int)=N:=wrap_u64 (by omega) (by omega);have w2:IntKind.u64.wrap (K:Int)=K:=wrap_u64 (by omega) (by omega);have s1:bV .shl .u64 (N:Int) 4=((N*2^4:Nat):Int):=kdx (k:=4) (by decide) (by omega);have o1:bV .or .u64 ((N*2^4:Nat):Int) 4=((N*2^4+4:Nat):Int):=kcS (b:=4) (by decide) (by omega);have o2:bV .or .u64 (((N*4+1)*2^2:Nat):Int) (K:Int)=(((N*4+1)*2^2+K:Nat):Int):=kcS (by omega) (by omega);rw[qb,qw,hNI,hKI,hr];simp only[];rw[w1,w2,s1,o1,show N*2^4+4=(N*4+1)*2^2 by omega,o2]
 cbv;rw[e1];cbv;rw[e3];cbv;rw[e2];refine ka (ρ:=[]) hput ⟨by rfl,by rfl,by rfl,by cbv⟩ ?_
 rintro v H R js ⟨rfl,c',hc',rfl,rfl⟩;cbv;exact⟨[0],.slice 0 .z 1 2 c',[.buf 5 .u8 LL c'],rfl,rfl,rfl,rfl,⟨rfl,trivial⟩,rfl,c',hc',rfl,rfl⟩
set_option maxRecDepth 100000 in
set_option maxHeartbeats 4000000 in
theorem kmT (K N:Nat) (hK:K≤3) (hN:4096≤N∧N≤131072) :
  Con Try.prog 50 [.int .u8 (K:Int),.int .i64 (N:Int)] [] (fun v H R=>R=[]∧∃c',3≤c'∧v=.slice 0 .z 1 3 c'∧H=[.buf 5 .u8 (leB ((N*16+12+K:Nat):Int) 3) c']):=by
 have hput:=kd5 ((N*16+12+K:Nat):Int) 3 (by omega) (by omega);refine kj (kG (km (kg kr kqo ?_)))
 intro vb vc vw _ _ _ _ _ _ _ _ _ _ _ _ _ _ _ _ _ _ _ qb qc qw _ _ _ _ _ _ _ _ _ _ _ _ _ _ _ _ _ _;have hm:=kr;generalize Try.prog=P at *;obtain⟨KI,hKI⟩:∃KI:Int,KI=K:=⟨_,rfl⟩;obtain⟨NI,hNI⟩:∃NI:Int,NI=N:=⟨_,rfl⟩;obtain⟨r,hr⟩:∃r:Int,r=((N*16+12+K:Nat):Int):=⟨_,rfl⟩;rw[←hKI,←hNI];rw[←hr] at hput ⊢
 have hput:Con P 81 [.val (.slice none 0 0),.int .u64 r,.int .i64 3] [] (fun v H R=>R=[]∧∃c',3≤c'∧v=.slice 0 .z 1 3 c'∧H=[.buf 5 .u8 (leB r 3) c']):=hput;generalize leB r 3=LL at *;have e1:vc .lss NI 32=false:=by rw[qc,ke];omega
 have e3:vc .lss NI 4096=false:=by rw[qc,ke];omega
 have e2:vb .or .u64 (vb .or .u64 (vb .shl .u64 (vw .u64 NI) 4) 12) (vw .u64 KI)=r:=by
  have w1:IntKind.u64.wrap (N:Int)=N:=wrap_u64 (by omega) (by omega);have w2:IntKind.u64.wrap (K:Int)=K:=wrap_u64 (by omega) (by omega);have s1:bV .shl .u64 (N:Int) 4=((N*2^4:Nat):Int):=kdx (k:=4) (by decide) (by omega);have o1:bV .or .u64 ((N*2^4:Nat):Int) 12=((N*2^4+12:Nat):Int):=kcS (b:=12) (by decide) (by omega);have o2:bV .or .u64 (((N*4+3)*2^2:Nat):Int) (K:Int)=(((N*4+3)*2^2+K:Nat):Int):=kcS (by omega) (by omega);rw[qb,qw,hNI,hKI,hr];simp only[];rw[w1,w2,s1,o1,show N*2^4+12=(N*4+3)*2^2 by omega,o2]
 cbv;rw[e1];cbv;rw[e3];cbv;rw[e2];refine ka (ρ:=[]) hput ⟨by rfl,by rfl,by rfl,by cbv⟩ ?_
 rintro v H R js ⟨rfl,c',hc',rfl,rfl⟩;cbv;exact⟨[0],.slice 0 .z 1 3 c',[.buf 5 .u8 LL c'],rfl,rfl,rfl,rfl,⟨rfl,trivial⟩,rfl,c',hc',rfl,rfl⟩
set_option maxHeartbeats 40000000 in
set_option maxRecDepth 100000 in
theorem keJ:Con Try.prog 56 [] [] (fun v H R=>v=.agg [.int .i64 3,.int .i64 10,.int .i64 1,.int .i64 3,.int .i64 10,.int .i64 4,.int .i64 4,.int .i64 14,.int .i64 4,.int .i64 5,.int .i64 18,.int .i64 4]∧H=[]∧R=[]):=by
  refine kj (kA 0 (by simp) (km (kg kr krl ?_)))
  intro _ _ _ _ _ _ _ _ _ _ _ _ _ _ _ _ _ _ _ _ _ _ _ _ _ _ _ _ _ _ _ _ _ _ _ _ _ _ _ _ _ _ _;cbv
def PkF (F b t s:Nat):Prop:=(F=0∧b=3∧t=10∧s=1)∨(F=1∧b=3∧t=10∧s=4)∨(F=2∧b=4∧t=14∧s=4)∨(F=3∧b=5∧t=18∧s=4)
theorem PkF.idx {F b t s:Nat} (h:PkF F b t s):takeA 3 (kcr 3 F [.int .i64 3,.int .i64 10,.int .i64 1,.int .i64 3,.int .i64 10,.int .i64 4,.int .i64 4,.int .i64 14,.int .i64 4,.int .i64 5,.int .i64 18,.int .i64 4])=[.int .i64 (b:Int),.int .i64 (t:Int),.int .i64 (s:Int)]:=by
  rcases h with⟨rfl,rfl,rfl,rfl⟩|⟨rfl,rfl,rfl,rfl⟩|⟨rfl,rfl,rfl,rfl⟩|⟨rfl,rfl,rfl,rfl⟩<;>rfl
def qA (K F N L t:Nat):Nat:=K+F*4+N*16+L*2^(4+t)
theorem PkF.num {F b t s K N L:Nat} (h:PkF F b t s) (hK:K<4) (hN:N<2^t) (hL:L<2^t) :
    qA K F N L t<18446744073709551616 ∧
    bV .or .u64 (bV .or .u64 (bV .or .u64 (IntKind.u64.wrap (K:Int)) (bV .shl .u64 (IntKind.u64.wrap (F:Int)) 2)) (bV .shl .u64 (IntKind.u64.wrap (N:Int)) 4))
      (bV .shl .u64 (IntKind.u64.wrap (L:Int)) (IntKind.u64.wrap (bV .add .i64 4 (t:Int))))=((qA K F N L t:Nat):Int):=by
  have hF:F<4∧t≤18:=by unfold PkF at h;omega
  have ht:2^t≤2^18:=Nat.pow_le_pow_right (by decide) hF.2;have ht4:2^(4+t)=16*2^t:=by rw[Nat.pow_add]
  have hLt:L*2^(4+t)≤2^18*(16*2^18):=Nat.mul_le_mul (by omega) (by omega);have w:∀x:Nat,x<18446744073709551616→IntKind.u64.wrap (x:Int)=x:=fun x hx=>wrap_u64 (by omega) (by omega)
  have a1:bV .add .i64 4 (t:Int)=((4+t:Nat):Int):=by rw[kh (by omega) (by omega)];omega
  have s1:bV .shl .u64 (F:Int) 2=((F*2^2:Nat):Int):=kdx (k:=2) (by decide) (by omega);have s2:bV .shl .u64 (N:Int) 4=((N*2^4:Nat):Int):=kdx (k:=4) (by decide) (by omega);have s3:bV .shl .u64 (L:Int) ((4+t:Nat):Int)=((L*2^(4+t):Nat):Int):=kdx (by omega) (by omega);have o1:bV .or .u64 (K:Int) ((F*2^2:Nat):Int)=((F*2^2+K:Nat):Int):=by rw[ka3 rfl];exact kcS (by omega) (by omega)
  have o2:bV .or .u64 ((F*2^2+K:Nat):Int) ((N*2^4:Nat):Int)=((N*2^4+(F*2^2+K):Nat):Int):=by rw[ka3 rfl];exact kcS (by omega) (by omega)
  have o3:bV .or .u64 ((N*2^4+(F*2^2+K):Nat):Int) ((L*2^(4+t):Nat):Int)=((L*2^(4+t)+(N*2^4+(F*2^2+K)):Nat):Int):=by
    rw[ka3 rfl];exact kcS (by omega) (by omega)
  refine⟨by unfold qA;omega,?_⟩
  rw[a1,w K (by omega),w F (by omega),w N (by omega),w L (by omega),w (4+t) (by omega),s1,s2,s3,o1,o2,o3];unfold qA;congr 1;omega
set_option maxRecDepth 100000 in
set_option maxHeartbeats 4000000 in
theorem kdy (B:List Int) (cb K F N b t s:Nat) (hF:PkF F b t s) (hK:K<4) (hN:N≤131072) (hBl:B.length≤1000000) :
    Con Try.prog 85 [.slice 0 .z 1 B.length cb,.int .i64 (K:Int),.int .i64 (F:Int),.int .i64 (N:Int)] [.ro .u8 B] (fun v H R=>R=[] ∧
      ((¬(N<2^t∧B.length<2^t)∧v=.val (.slice none 0 0)∧H=[.ro .u8 B]) ∨
       ((N<2^t∧B.length<2^t)∧∃c',b+B.length≤c'∧v=.slice 1 .z 1 (b+B.length) c'∧H=[.ro .u8 B,.buf 5 .u8 (leB ((qA K F N B.length t:Nat):Int) b++B) c']))):=by
  have hnum:=fun h1 h2=>PkF.num (K:=K) (N:=N) (L:=B.length) hF hK h1 h2
  have hbb:1≤b∧b≤8:=by unfold PkF at hF;omega
  have hput:qA K F N B.length t<18446744073709551616→Con Try.prog 81 _ _ _:=fun h=>kd5 ((qA K F N B.length t:Nat):Int) b (by omega) hbb
  have hidx:=hF.idx;have hFF:F<4∧t≤18:=by unfold PkF at hF;omega
  have hpk:=keJ;have hsh:bV .shl .i64 1 (IntKind.u64.wrap (t:Int))=((2^t:Nat):Int):=by
    have:∀x:Fin 19,bV .shl .i64 1 (IntKind.u64.wrap (x.val:Int))=((2^x.val:Nat):Int):=by decide
    exact this ⟨t,by omega⟩
  have hleB:=kT ((qA K F N B.length t:Nat):Int) b;refine kj (kG (km (kg kr ksg ?_)))
  intro vb vc vw vtoN vofN vaddN _ _ _ _ _ _ vln _ vsub vonto _ _ _ _ _ _ qb qc qw qtoN qofN qaddN _ _ _ _ _ _ qln _ qsub qonto _ _ _ _ _;have hm:=kr;generalize Try.prog=P at *;generalize hr:((qA K F N B.length t:Nat):Int)=r at *;generalize hT:2^t=T at *;generalize hL:B.length=L at *;obtain⟨KI,hKI⟩:∃KI:Int,KI=K:=⟨_,rfl⟩;obtain⟨FI,hFI⟩:∃FI:Int,FI=F:=⟨_,rfl⟩;obtain⟨NI,hNI⟩:∃NI:Int,NI=N:=⟨_,rfl⟩;obtain⟨bI,hbI⟩:∃NI:Int,NI=b:=⟨_,rfl⟩;obtain⟨tI,htI⟩:∃NI:Int,NI=t:=⟨_,rfl⟩;obtain⟨sI,hsI⟩:∃NI:Int,NI=s:=⟨_,rfl⟩;obtain⟨TI,hTI⟩:∃NI:Int,NI=T:=⟨_,rfl⟩;obtain⟨LI,hLI⟩:∃NI:Int,NI=L:=⟨_,rfl⟩;have h9:∀n:Nat,n<18446744073709551616→(n:Int)<18446744073709551616:=fun n h=>by omega
  have htI0:=htI;have eT:vb .shl .i64 1 (vw .u64 tI)=TI:=by rw[qb,qw,hTI,htI];exact hsh
  have eL:vofN L=LI:=by rw[qofN,hLI]
  generalize hLL:leB r b=LL at *;rw[←hKI,←hFI,←hNI];clear hidx hsh;rcases hF with⟨rfl,rfl,rfl,rfl⟩|⟨rfl,rfl,rfl,rfl⟩|⟨rfl,rfl,rfl,rfl⟩|⟨rfl,rfl,rfl,rfl⟩
  · have hFl:FI=0:=by omega
    have htl:tI=10:=by omega
    have htF:vtoN FI=0:=by rw[qtoN,hFl];rfl
    have eT':vb .shl .i64 1 (vw .u64 10)=TI:=by rw[←htl];exact eT
    have hput:r<18446744073709551616→Con P 81 [.val (.slice none 0 0),.int .u64 r,.int .i64 3] [] (fun v H R=>R=[]∧∃c',3≤c'∧v=.slice 0 .z 1 3 c'∧H=[.buf 5 .u8 LL c']):=fun h=>hput (by omega)
    have nn:jf (vw .u64 10):=⟨by rw[qw];decide⟩;have nn2:jf (vw .u64 (vb .add .i64 4 10)):=⟨by rw[qw,qb];decide⟩;cbv;refine ka (ρ:=[]) hpk ⟨by rfl,by rfl,by rfl,by cbv⟩ ?_
    rintro v H R js ⟨rfl,rfl,rfl⟩;cbv;rw[htF];refine⟨⟨by omega,by omega⟩,?_⟩
    cbv;rw[eT'];generalize hz1:vc .geq NI TI=z1;cases z1
    rotate_left
    · rw[qc,jb] at hz1
      cbv;exact⟨nn,[0],.val (.slice none 0 0),[.ro .u8 B],rfl,rfl,rfl,rfl,⟨rfl,trivial⟩,rfl,.inl ⟨by((try simp only[nc] at *);omega),rfl,rfl⟩⟩
    rw[qc,kO] at hz1;cbv;rw[eL,eT'];generalize hz2:vc .geq LI TI=z2;cases z2
    rotate_left
    · rw[qc,jb] at hz2
      cbv;exact⟨nn,nn,[0],.val (.slice none 0 0),[.ro .u8 B],rfl,rfl,rfl,rfl,⟨rfl,trivial⟩,rfl,.inl ⟨by((try simp only[nc] at *);omega),rfl,rfl⟩⟩
    rw[qc,kO] at hz2;have hok:N<T∧L<T:=by((try simp only[nc] at *);omega)
    obtain⟨hr1,hr2⟩:=hnum hok.1 hok.2;have er:vb .or .u64 (vb .or .u64 (vb .or .u64 (vw .u64 KI) (vb .shl .u64 (vw .u64 FI) 2)) (vb .shl .u64 (vw .u64 NI) 4)) (vb .shl .u64 (vw .u64 LI) (vw .u64 (vb .add .i64 4 10)))=r:=by
      rw[qb,qw,hKI,hFI,hNI,hLI];exact hr2
    have hput:=hput (by rw[←hr];exact h9 _ hr1);have hLb:LL.length=3:=hleB;cbv;refine⟨nn,nn,nn2,?_⟩
    rw[eL,er];refine ka (ρ:=[]) hput ⟨by rfl,by rfl,by rfl,by cbv⟩ ?_
    rintro v H R js ⟨rfl,c',hc',rfl,rfl⟩;cbv;have ha:vaddN 3 L=3+L:=by rw[qaddN]
    have ha0:vaddN 0 L=L:=by simp only[qaddN,Nat.zero_add]
    have hlB:vln B=L:=by rw[qln];exact hL
    have hlL:vln LL=3:=by rw[qln];exact hLb
    have hont:vonto LL 3 (vsub B 0 L)=LL++B:=by rw[qonto,qsub,←hL];simp only[List.drop_zero,List.take_length];rw[←hLb,List.take_length]
    refine⟨⟨by rw[ha0,hlB];exact Nat.le_refl _⟩,⟨by rw[hlL];exact Nat.le_refl _⟩,⟨Nat.le_refl _⟩,⟨by rw[ha];((try simp only[nc] at *);omega)⟩,?_⟩
    intro c2 js2 hle;have hle':3+L≤c2:=by have:=hle.out;simp only at this;rw[ha] at this;exact this
    cbv;rw[hont,ha];exact⟨[0,2],.slice 1 .z 1 (3+L) c2,[.ro .u8 B,.buf 5 .u8 (LL++B) c2],rfl,rfl,rfl,rfl,⟨rfl,rfl,trivial⟩,rfl,.inr ⟨hok,c2,hle',rfl,rfl⟩⟩
  · have hFl:FI=1:=by omega
    have htl:tI=10:=by omega
    have htF:vtoN FI=1:=by rw[qtoN,hFl];rfl
    have eT':vb .shl .i64 1 (vw .u64 10)=TI:=by rw[←htl];exact eT
    have hput:r<18446744073709551616→Con P 81 [.val (.slice none 0 0),.int .u64 r,.int .i64 3] [] (fun v H R=>R=[]∧∃c',3≤c'∧v=.slice 0 .z 1 3 c'∧H=[.buf 5 .u8 LL c']):=fun h=>hput (by omega)
    have nn:jf (vw .u64 10):=⟨by rw[qw];decide⟩;have nn2:jf (vw .u64 (vb .add .i64 4 10)):=⟨by rw[qw,qb];decide⟩;cbv;refine ka (ρ:=[]) hpk ⟨by rfl,by rfl,by rfl,by cbv⟩ ?_
    rintro v H R js ⟨rfl,rfl,rfl⟩;cbv;rw[htF];refine⟨⟨by omega,by omega⟩,?_⟩
    cbv;rw[eT'];generalize hz1:vc .geq NI TI=z1;cases z1
    rotate_left
    · rw[qc,jb] at hz1
      cbv;exact⟨nn,[0],.val (.slice none 0 0),[.ro .u8 B],rfl,rfl,rfl,rfl,⟨rfl,trivial⟩,rfl,.inl ⟨by((try simp only[nc] at *);omega),rfl,rfl⟩⟩
    rw[qc,kO] at hz1;cbv;rw[eL,eT'];generalize hz2:vc .geq LI TI=z2;cases z2
    rotate_left
    · rw[qc,jb] at hz2
      cbv;exact⟨nn,nn,[0],.val (.slice none 0 0),[.ro .u8 B],rfl,rfl,rfl,rfl,⟨rfl,trivial⟩,rfl,.inl ⟨by((try simp only[nc] at *);omega),rfl,rfl⟩⟩
    rw[qc,kO] at hz2;have hok:N<T∧L<T:=by((try simp only[nc] at *);omega)
    obtain⟨hr1,hr2⟩:=hnum hok.1 hok.2;have er:vb .or .u64 (vb .or .u64 (vb .or .u64 (vw .u64 KI) (vb .shl .u64 (vw .u64 FI) 2)) (vb .shl .u64 (vw .u64 NI) 4)) (vb .shl .u64 (vw .u64 LI) (vw .u64 (vb .add .i64 4 10)))=r:=by
      rw[qb,qw,hKI,hFI,hNI,hLI];exact hr2
    have hput:=hput (by rw[←hr];exact h9 _ hr1);have hLb:LL.length=3:=hleB;cbv;refine⟨nn,nn,nn2,?_⟩
    rw[eL,er];refine ka (ρ:=[]) hput ⟨by rfl,by rfl,by rfl,by cbv⟩ ?_
    rintro v H R js ⟨rfl,c',hc',rfl,rfl⟩;cbv;have ha:vaddN 3 L=3+L:=by rw[qaddN]
    have ha0:vaddN 0 L=L:=by simp only[qaddN,Nat.zero_add]
    have hlB:vln B=L:=by rw[qln];exact hL
    have hlL:vln LL=3:=by rw[qln];exact hLb
    have hont:vonto LL 3 (vsub B 0 L)=LL++B:=by rw[qonto,qsub,←hL];simp only[List.drop_zero,List.take_length];rw[←hLb,List.take_length]
    refine⟨⟨by rw[ha0,hlB];exact Nat.le_refl _⟩,⟨by rw[hlL];exact Nat.le_refl _⟩,⟨Nat.le_refl _⟩,⟨by rw[ha];((try simp only[nc] at *);omega)⟩,?_⟩
    intro c2 js2 hle;have hle':3+L≤c2:=by have:=hle.out;simp only at this;rw[ha] at this;exact this
    cbv;rw[hont,ha];exact⟨[0,2],.slice 1 .z 1 (3+L) c2,[.ro .u8 B,.buf 5 .u8 (LL++B) c2],rfl,rfl,rfl,rfl,⟨rfl,rfl,trivial⟩,rfl,.inr ⟨hok,c2,hle',rfl,rfl⟩⟩
  · have hFl:FI=2:=by omega
    have htl:tI=14:=by omega
    have htF:vtoN FI=2:=by rw[qtoN,hFl];rfl
    have eT':vb .shl .i64 1 (vw .u64 14)=TI:=by rw[←htl];exact eT
    have hput:r<18446744073709551616→Con P 81 [.val (.slice none 0 0),.int .u64 r,.int .i64 4] [] (fun v H R=>R=[]∧∃c',4≤c'∧v=.slice 0 .z 1 4 c'∧H=[.buf 5 .u8 LL c']):=fun h=>hput (by omega)
    have nn:jf (vw .u64 14):=⟨by rw[qw];decide⟩;have nn2:jf (vw .u64 (vb .add .i64 4 14)):=⟨by rw[qw,qb];decide⟩;cbv;refine ka (ρ:=[]) hpk ⟨by rfl,by rfl,by rfl,by cbv⟩ ?_
    rintro v H R js ⟨rfl,rfl,rfl⟩;cbv;rw[htF];refine⟨⟨by omega,by omega⟩,?_⟩
    cbv;rw[eT'];generalize hz1:vc .geq NI TI=z1;cases z1
    rotate_left
    · rw[qc,jb] at hz1
      cbv;exact⟨nn,[0],.val (.slice none 0 0),[.ro .u8 B],rfl,rfl,rfl,rfl,⟨rfl,trivial⟩,rfl,.inl ⟨by((try simp only[nc] at *);omega),rfl,rfl⟩⟩
    rw[qc,kO] at hz1;cbv;rw[eL,eT'];generalize hz2:vc .geq LI TI=z2;cases z2
    rotate_left
    · rw[qc,jb] at hz2
      cbv;exact⟨nn,nn,[0],.val (.slice none 0 0),[.ro .u8 B],rfl,rfl,rfl,rfl,⟨rfl,trivial⟩,rfl,.inl ⟨by((try simp only[nc] at *);omega),rfl,rfl⟩⟩
    rw[qc,kO] at hz2;have hok:N<T∧L<T:=by((try simp only[nc] at *);omega)
    obtain⟨hr1,hr2⟩:=hnum hok.1 hok.2;have er:vb .or .u64 (vb .or .u64 (vb .or .u64 (vw .u64 KI) (vb .shl .u64 (vw .u64 FI) 2)) (vb .shl .u64 (vw .u64 NI) 4)) (vb .shl .u64 (vw .u64 LI) (vw .u64 (vb .add .i64 4 14)))=r:=by
      rw[qb,qw,hKI,hFI,hNI,hLI];exact hr2
    have hput:=hput (by rw[←hr];exact h9 _ hr1);have hLb:LL.length=4:=hleB;cbv;refine⟨nn,nn,nn2,?_⟩
    rw[eL,er];refine ka (ρ:=[]) hput ⟨by rfl,by rfl,by rfl,by cbv⟩ ?_
    rintro v H R js ⟨rfl,c',hc',rfl,rfl⟩;cbv;have ha:vaddN 4 L=4+L:=by rw[qaddN]
    have ha0:vaddN 0 L=L:=by simp only[qaddN,Nat.zero_add]
    have hlB:vln B=L:=by rw[qln];exact hL
    have hlL:vln LL=4:=by rw[qln];exact hLb
    have hont:vonto LL 4 (vsub B 0 L)=LL++B:=by rw[qonto,qsub,←hL];simp only[List.drop_zero,List.take_length];rw[←hLb,List.take_length]
    refine⟨⟨by rw[ha0,hlB];exact Nat.le_refl _⟩,⟨by rw[hlL];exact Nat.le_refl _⟩,⟨Nat.le_refl _⟩,⟨by rw[ha];((try simp only[nc] at *);omega)⟩,?_⟩
    intro c2 js2 hle;have hle':4+L≤c2:=by have:=hle.out;simp only at this;rw[ha] at this;exact this
    cbv;rw[hont,ha];exact⟨[0,2],.slice 1 .z 1 (4+L) c2,[.ro .u8 B,.buf 5 .u8 (LL++B) c2],rfl,rfl,rfl,rfl,⟨rfl,rfl,trivial⟩,rfl,.inr ⟨hok,c2,hle',rfl,rfl⟩⟩
  · have hFl:FI=3:=by omega
    have htl:tI=18:=by omega
    have htF:vtoN FI=3:=by rw[qtoN,hFl];rfl
    have eT':vb .shl .i64 1 (vw .u64 18)=TI:=by rw[←htl];exact eT
    have hput:r<18446744073709551616→Con P 81 [.val (.slice none 0 0),.int .u64 r,.int .i64 5] [] (fun v H R=>R=[]∧∃c',5≤c'∧v=.slice 0 .z 1 5 c'∧H=[.buf 5 .u8 LL c']):=fun h=>hput (by omega)
    have nn:jf (vw .u64 18):=⟨by rw[qw];decide⟩;have nn2:jf (vw .u64 (vb .add .i64 4 18)):=⟨by rw[qw,qb];decide⟩;cbv;refine ka (ρ:=[]) hpk ⟨by rfl,by rfl,by rfl,by cbv⟩ ?_
    rintro v H R js ⟨rfl,rfl,rfl⟩;cbv;rw[htF];refine⟨⟨by omega,by omega⟩,?_⟩
    cbv;rw[eT'];generalize hz1:vc .geq NI TI=z1;cases z1
    rotate_left
    · rw[qc,jb] at hz1
      cbv;exact⟨nn,[0],.val (.slice none 0 0),[.ro .u8 B],rfl,rfl,rfl,rfl,⟨rfl,trivial⟩,rfl,.inl ⟨by((try simp only[nc] at *);omega),rfl,rfl⟩⟩
    rw[qc,kO] at hz1;cbv;rw[eL,eT'];generalize hz2:vc .geq LI TI=z2;cases z2
    rotate_left
    · rw[qc,jb] at hz2
      cbv;exact⟨nn,nn,[0],.val (.slice none 0 0),[.ro .u8 B],rfl,rfl,rfl,rfl,⟨rfl,trivial⟩,rfl,.inl ⟨by((try simp only[nc] at *);omega),rfl,rfl⟩⟩
    rw[qc,kO] at hz2;have hok:N<T∧L<T:=by((try simp only[nc] at *);omega)
    obtain⟨hr1,hr2⟩:=hnum hok.1 hok.2;have er:vb .or .u64 (vb .or .u64 (vb .or .u64 (vw .u64 KI) (vb .shl .u64 (vw .u64 FI) 2)) (vb .shl .u64 (vw .u64 NI) 4)) (vb .shl .u64 (vw .u64 LI) (vw .u64 (vb .add .i64 4 18)))=r:=by
      rw[qb,qw,hKI,hFI,hNI,hLI];exact hr2
    have hput:=hput (by rw[←hr];exact h9 _ hr1);have hLb:LL.length=5:=hleB;cbv;refine⟨nn,nn,nn2,?_⟩
    rw[eL,er];refine ka (ρ:=[]) hput ⟨by rfl,by rfl,by rfl,by cbv⟩ ?_
    rintro v H R js ⟨rfl,c',hc',rfl,rfl⟩;cbv;have ha:vaddN 5 L=5+L:=by rw[qaddN]
    have ha0:vaddN 0 L=L:=by simp only[qaddN,Nat.zero_add]
    have hlB:vln B=L:=by rw[qln];exact hL
    have hlL:vln LL=5:=by rw[qln];exact hLb
    have hont:vonto LL 5 (vsub B 0 L)=LL++B:=by rw[qonto,qsub,←hL];simp only[List.drop_zero,List.take_length];rw[←hLb,List.take_length]
    refine⟨⟨by rw[ha0,hlB];exact Nat.le_refl _⟩,⟨by rw[hlL];exact Nat.le_refl _⟩,⟨Nat.le_refl _⟩,⟨by rw[ha];((try simp only[nc] at *);omega)⟩,?_⟩
    intro c2 js2 hle;have hle':5+L≤c2:=by have:=hle.out;simp only at this;rw[ha] at this;exact this
    cbv;rw[hont,ha];exact⟨[0,2],.slice 1 .z 1 (5+L) c2,[.ro .u8 B,.buf 5 .u8 (LL++B) c2],rfl,rfl,rfl,rfl,⟨rfl,rfl,trivial⟩,rfl,.inr ⟨hok,c2,hle',rfl,rfl⟩⟩
theorem gL {a b:List Int} {i:Nat} (h:i<a.length):(a++b).getD i 0=a.getD i 0:=by
 rw[List.getD_eq_getElem?_getD,List.getD_eq_getElem?_getD,List.getElem?_append_left h]
theorem gR {a b:List Int} {i:Nat} (h:a.length≤i):(a++b).getD i 0=b.getD (i-a.length) 0:=by
 rw[List.getD_eq_getElem?_getD,List.getD_eq_getElem?_getD,List.getElem?_append_right h]
theorem kls (X:Int):∀n i,i<n→(leB X n).getD i 0=X / 256^i % 256
 |0,i,h=>by omega
 | n+1,i,h=>by
  rw[leB];by_cases e:i<n
  ·rw[gL (by rw[kT];exact e),kls X n i e]
  ·obtain rfl:i=n:=by omega
   rw[gR (by rw[kT];exact Nat.le_refl _),kT,Nat.sub_self];rfl
theorem kec (X:Int):∀n,∀c∈leB X n,kv c
 |0,c,h=>by simp[leB] at h
 |n+1,c,h=>by
  rw[leB,List.mem_append] at h;rcases h with h|h
  ·exact kec X n c h
  ·rw[List.mem_singleton.1 h];unfold kv;omega
theorem kdz (X:Int) (n:Nat) (r:List Int) (i:Nat) (h:i<n):(leB X n++r).getD i 0=X / 256^i % 256:=by
 rw[gL (by rw[kT];exact h),kls X n i h]
theorem kgc (X:Int) (n:Nat) (r:List Int) (hn:1≤n∧n≤5) (hX:0≤X∧X<256^n):j4 (leB X n++r) n=X:=by
 have h:=kdz X n r;obtain⟨h1,h2⟩:=hn;obtain rfl|rfl|rfl|rfl|rfl:n=1∨n=2∨n=3∨n=4∨n=5:=by omega
 ·simp only[j4,h 0 (by omega)];simp at hX ⊢;omega
 ·simp only[j4,h 0 (by omega),h 1 (by omega)];simp at hX ⊢;omega
 ·simp only[j4,h 0 (by omega),h 1 (by omega),h 2 (by omega)];simp at hX ⊢;omega
 ·simp only[j4,h 0 (by omega),h 1 (by omega),h 2 (by omega),h 3 (by omega)];simp at hX ⊢;omega
 ·simp only[j4,h 0 (by omega),h 1 (by omega),h 2 (by omega),h 3 (by omega),h 4 (by omega)];simp at hX ⊢;omega
def PlH (hd:List Int) (K N:Nat):Prop:=1≤hd.length∧hd.length≤3∧(∀c∈hd,kv c)∧∀r,kdH (hd++r)=K∧usH (hd++r)=hd.length∧szH (hd++r)=N
theorem kqM (K N:Nat) (hK:K<2) (hN:N<32):PlH [((N*8+K:Nat):Int)] K N:=by
 refine⟨by simp,by simp,fun c hc=>by rw[List.mem_singleton.1 hc];unfold kv;omega,fun r=>?_⟩
 have h0:([((N*8+K:Nat):Int)]++r).getD 0 0=((N*8+K:Nat):Int):=rfl;have hk:kdH ([((N*8+K:Nat):Int)]++r)=K:=by unfold kdH;rw[h0];omega
 have hf:fmH ([((N*8+K:Nat):Int)]++r)≠1∧fmH ([((N*8+K:Nat):Int)]++r)≠3:=by unfold fmH;rw[h0];omega
 have hu:usH ([((N*8+K:Nat):Int)]++r)=1:=by unfold usH;rw[if_pos (by rw[hk];omega),if_neg hf.1,if_neg hf.2]
 have ht:btH ([((N*8+K:Nat):Int)]++r)=5:=by unfold btH;rw[if_pos (by rw[hk];omega),if_neg hf.1,if_neg hf.2]
 refine⟨hk,hu,?_⟩
 unfold szH nmH;rw[hu,ht,if_pos rfl,h0];omega
theorem kpG (K N:Nat) (hK:K<2) (hN:N<4096):PlH (leB ((N*16+4+K:Nat):Int) 2) K N:=by
 obtain⟨X,hX⟩:∃X:Int,X=((N*16+4+K:Nat):Int):=⟨_,rfl⟩;rw[←hX];refine⟨by rw[kT];omega,by rw[kT];omega,kec _ _,fun r=>?_⟩
 have h0:(leB X 2++r).getD 0 0=X % 256:=by rw[kdz X 2 r 0 (by omega)];simp
 have hk:kdH (leB X 2++r)=K:=by unfold kdH;rw[h0];omega
 have hf:fmH (leB X 2++r)=1:=by unfold fmH;rw[h0];omega
 have hu:usH (leB X 2++r)=2:=by unfold usH;rw[if_pos (by rw[hk];omega),if_pos hf]
 have ht:btH (leB X 2++r)=12:=by unfold btH;rw[if_pos (by rw[hk];omega),if_pos hf]
 refine⟨hk,by rw[hu,kT],?_⟩
 unfold szH nmH;rw[hu,ht,if_neg (by decide),kgc X 2 r (by omega) (by omega)];omega
theorem kqN (K N:Nat) (hK:K<2) (hN:N≤131072):PlH (leB ((N*16+12+K:Nat):Int) 3) K N:=by
 obtain⟨X,hX⟩:∃X:Int,X=((N*16+12+K:Nat):Int):=⟨_,rfl⟩;rw[←hX];refine⟨by rw[kT];omega,by rw[kT];omega,kec _ _,fun r=>?_⟩
 have h0:(leB X 3++r).getD 0 0=X % 256:=by rw[kdz X 3 r 0 (by omega)];simp
 have hk:kdH (leB X 3++r)=K:=by unfold kdH;rw[h0];omega
 have hf:fmH (leB X 3++r)=3:=by unfold fmH;rw[h0];omega
 have hu:usH (leB X 3++r)=3:=by unfold usH;rw[if_pos (by rw[hk];omega),if_neg (by omega),if_pos hf]
 have ht:btH (leB X 3++r)=20:=by unfold btH;rw[if_pos (by rw[hk];omega),if_neg (by omega),if_pos hf]
 refine⟨hk,by rw[hu,kT],?_⟩
 unfold szH nmH;rw[hu,ht,if_neg (by decide),kgc X 3 r (by omega) (by omega)];omega
def PkH (hd:List Int) (K N L S:Nat):Prop:=1≤hd.length∧hd.length≤5∧(∀c∈hd,kv c)∧∀r,kdH (hd++r)=K∧usH (hd++r)=hd.length∧szH (hd++r)=N∧pkH (hd++r)=L∧rwH (hd++r)=S
theorem kqO {F b t s K N L:Nat} (h:PkF F b t s) (hK:2≤K∧K<4) (hN:N<2^t) (hL:L<2^t):PkH (leB ((qA K F N L t:Nat):Int) b) K N L s:=by
 obtain⟨X,hX⟩:∃X:Int,X=((qA K F N L t:Nat):Int):=⟨_,rfl⟩;rw[←hX];have key:∀r,X=K+F*4+N*16+L*2^(4+t)→3≤b→b≤5→X<256^b→(F=0∧b=3∧t=10∧s=1∨F=1∧b=3∧t=10∧s=4∨F=2∧b=4∧t=14∧s=4∨F=3∧b=5∧t=18∧s=4) →
   kdH (leB X b++r)=K∧usH (leB X b++r)=(leB X b).length∧szH (leB X b++r)=N∧pkH (leB X b++r)=L∧rwH (leB X b++r)=s:=by
  intro r hX hb3 hb5 hXl hF;have h0:(leB X b++r).getD 0 0=X % 256:=by rw[kdz X b r 0 (by omega)];simp
  have hX4:X % 256 % 4=K∧X % 256 / 4 % 4=F:=by
   rcases hF with⟨rfl,rfl,rfl,rfl⟩|⟨rfl,rfl,rfl,rfl⟩|⟨rfl,rfl,rfl,rfl⟩|⟨rfl,rfl,rfl,rfl⟩<;>simp at hX<;>omega
  have hk:kdH (leB X b++r)=K:=by unfold kdH;rw[h0];exact hX4.1
  have hkn:¬kdH (leB X b++r)<2:=by rw[hk];omega
  have hf:fmH (leB X b++r)=F:=by unfold fmH;rw[h0];exact hX4.2
  have hX0:0≤X:=by
   have:(0:Int)≤L*2^(4+t):=Int.mul_nonneg (by omega) (Int.le_of_lt (Int.pow_pos (by decide)));omega
  have hnum:=kgc X b r (by omega) ⟨hX0,hXl⟩;rcases hF with⟨rfl,rfl,rfl,rfl⟩|⟨rfl,rfl,rfl,rfl⟩|⟨rfl,rfl,rfl,rfl⟩|⟨rfl,rfl,rfl,rfl⟩
  all_goals
   simp at hX hN hL
   simp only[usH,btH,rwH,szH,pkH,nmH,hkn,hf,kT,if_false];simp only[hk,true_and];simp[hnum]
   omega
 have hb:3≤b∧b≤5:=by unfold PkF at h;omega
 have hXl:X<256^b:=by
  rw[hX];unfold qA PkF at *
  rcases h with⟨rfl,rfl,rfl,rfl⟩|⟨rfl,rfl,rfl,rfl⟩|⟨rfl,rfl,rfl,rfl⟩|⟨rfl,rfl,rfl,rfl⟩<;>simp at hN hL ⊢<;>omega
 refine⟨by rw[kT];omega,by rw[kT];omega,kec _ _,fun r=>key r ?_ hb.1 hb.2 hXl h⟩
 rw[hX];unfold qA;push_cast;rfl
def kaS (f:Bool) (w lits b nxt:List Int):Prop:=∀(behind:List Int) (most:Int),(lits.length:Int)≤most→most≤131072 →
 if f then RdL (b++behind) w most=.own lits nxt b.length else nxt=w∧(RdL (b++behind) w most=.keep lits b.length∨∃x,RdL (b++behind) w most=.rep x lits.length b.length∧lits=List.replicate lits.length x)
theorem kaO (hd c r:List Int):seg (hd++c++r) hd.length c.length=c:=by
 unfold seg;rw[List.append_assoc,List.drop_left,List.take_left]
theorem kmU {hd lits:List Int} (w:List Int) (h:PlH hd 0 lits.length):kaS false w lits (hd++lits) w:=by
 intro behind most h1 h2;obtain⟨a1,a2,a3,a4⟩:=h;obtain⟨k1,k2,k3⟩:=a4 (lits++behind);rw[←List.append_assoc] at k1 k2 k3;have hb:bhH (hd++lits++behind)=lits.length:=by unfold bhH;rw[if_pos (by rw[k1];rfl),k3]
 refine⟨rfl,.inl ?_⟩
 rw[(qR _ w most).2.2.2.2.2 (by omega) (by simp only[List.length_append];omega) (by rw[k2];simp only[List.length_append];omega) (by rw[k3];omega) (by rw[k2,hb];simp only[List.length_append];omega),k1,k2,hb];unfold kaz;rw[if_pos (by rfl),Int.toNat_natCast,kaO];simp
theorem kmV {hd lits:List Int} {x:Int} (w:List Int) (h:PlH hd 1 lits.length) (hl:lits=List.replicate lits.length x):kaS false w lits (hd++[x]) w:=by
 intro behind most h1 h2;obtain⟨a1,a2,a3,a4⟩:=h;obtain⟨k1,k2,k3⟩:=a4 ([x]++behind);rw[←List.append_assoc] at k1 k2 k3;have hb:bhH (hd++[x]++behind)=1:=by unfold bhH;rw[if_neg (by rw[k1];decide),if_pos (by rw[k1];rfl)]
 refine⟨rfl,.inr ⟨x,?_,hl⟩⟩
 rw[(qR _ w most).2.2.2.2.2 (by omega) (by simp) (by rw[k2];simp only[List.length_append,List.length_cons,List.length_nil];omega) (by rw[k3];omega) (by rw[k2,hb];simp only[List.length_append,List.length_cons,List.length_nil];omega),k1,k2,hb,k3];have hs:=kaO hd [x] behind;unfold kaz;rw[if_neg (by decide),if_pos (by rfl)];rw[show(1:Int).toNat=[x].length from rfl,hs];simp
theorem kmW {hd body lits:List Int} {S:Nat} {w:List Int} (h:PkH hd 3 lits.length body.length S) (hr:qa w body lits.length S=some lits):kaS false w lits (hd++body) w:=by
 intro behind most h1 h2;obtain⟨a1,a2,a3,a4⟩:=h;obtain⟨k1,k2,k3,k4,k5⟩:=a4 (body++behind);rw[←List.append_assoc] at k1 k2 k3 k4 k5;have hb:bhH (hd++body++behind)=body.length:=by unfold bhH;rw[if_neg (by rw[k1];decide),if_neg (by rw[k1];decide),k4]
 refine⟨rfl,.inl ?_⟩
 rw[(qR _ w most).2.2.2.2.2 (by omega) (by simp only[List.length_append];omega) (by rw[k2];simp only[List.length_append];omega) (by rw[k3];omega) (by rw[k2,hb];simp only[List.length_append,List.length_cons,List.length_nil] at *;omega),k1,k2,hb,k3,k5];unfold kaz;rw[if_neg (by decide),if_neg (by decide),if_neg (by decide),Int.toNat_natCast,kaO,hr];simp[kept]
def kb1 (l d:List Int):Prop:=(∀c∈d,kv c)∧1≤d.length∧d.length≤129∧∀rest,rdw (d++rest)=some l∧1+hnW (d++rest)=d.length
theorem kmX {hd d body lits:List Int} {S:Nat} {w l:List Int} (h:PkH hd 2 lits.length (d++body).length S) (hd2:kb1 l d) (hr:qa l body lits.length S=some lits):kaS true w lits (hd++(d++body)) l:=by
 intro behind most h1 h2;obtain⟨a1,a2,a3,a4⟩:=h;obtain⟨k1,k2,k3,k4,k5⟩:=a4 (d++body++behind);rw[←List.append_assoc] at k1 k2 k3 k4 k5;have hb:bhH (hd++(d++body)++behind)=(d++body).length:=by unfold bhH;rw[if_neg (by rw[k1];decide),if_neg (by rw[k1];decide),k4]
 show RdL _ _ _=_
 rw[(qR _ w most).2.2.2.2.2 (by omega) (by simp only[List.length_append];omega) (by rw[k2];simp only[List.length_append];omega) (by rw[k3];omega) (by rw[k2,hb];simp only[List.length_append,List.length_cons,List.length_nil] at *;omega),k1,k2,hb,k3,k5];unfold kaz;rw[if_neg (by decide),if_neg (by decide),if_pos (by rfl),Int.toNat_natCast,kaO];obtain⟨_,_,_,h4⟩:=hd2;obtain⟨h5,h6⟩:=h4 body;rw[h5,h6];simp only[Int.toNat_natCast,List.drop_left,hr,owned];simp
noncomputable def rowP (w:List Int) (M:Nat) (b:List Int):List Int:=pack (pb w M b b.length++[1])
theorem kjs {w:List Int} {M:Nat} {b:List Int} (hl:∀c∈w,kv c) (hW:Wt w M) (hb:∀c∈b,kv c) (hall:qJ w b b.length):unR w (rowP w M b) b.length=some b:=by
 obtain⟨h1,h2⟩:=kpi (pb w M b b.length) (keb w M b b.length);obtain⟨h3,h4⟩:=kqH hl hW hb hall;have hm:jP (rowP w M b)=(pb w M b b.length).length:=h2;rw[koA hW,Int.toNat_natCast,hm,if_pos ⟨h1,h3⟩];exact congrArg some h4
theorem kjt {w:List Int} {M:Nat} (hW:Wt w M) (b:List Int):(rowP w M b).length≤2*b.length+1:=by
 have:=kf7 hW b b.length;unfold rowP;rw[kR,List.length_append];simp
 omega
theorem klt (w:List Int) (M:Nat) (b:List Int):∀c∈rowP w M b,kv c:=by
 intro c hc;have:=kgT _ (fun x hx=>by
  rcases List.mem_append.1 hx with hx|hx
  ·exact keb w M b b.length x hx
  ·rw[List.mem_singleton.1 hx];unfold jc;omega) c hc
 unfold isByte at this;unfold kv;omega
theorem kqP (x:Int):leB x 2=[x % 256,x / 256 % 256]:=by simp[leB]
theorem kpH {w r0 r1 r2 r3 p0 p1 p2 p3:List Int} {N each:Int} (h0:unR w r0 each=some p0) (h1:unR w r1 each=some p1) (h2:unR w r2 each=some p2) (h3:unR w r3 (N-3*each)=some p3)
  (l0:r0.length<65536) (l1:r1.length<65536) (l2:r2.length<65536) :
  kbx w (leB r0.length 2++leB r1.length 2++leB r2.length 2++(r0++r1++r2++r3)) N each 4 6 []=some (p0++p1++p2++p3):=by
 obtain⟨b,hb⟩:∃b,b=leB r0.length 2++leB r1.length 2++leB r2.length 2++(r0++r1++r2++r3):=⟨_,rfl⟩;rw[←hb];obtain⟨six,hsix⟩:∃six,six=leB (r0.length:Int) 2++leB r1.length 2++leB r2.length 2:=⟨_,rfl⟩;have hs6:six.length=6:=by rw[hsix];simp[kT]
 have hbl:b.length=6+r0.length+r1.length+r2.length+r3.length:=by rw[hb,←hsix];simp[hs6];omega
 have hb':b=(r0.length:Int) % 256::(r0.length:Int) / 256 % 256::(r1.length:Int) % 256::(r1.length:Int) / 256 % 256::(r2.length:Int) % 256::(r2.length:Int) / 256 % 256::(r0++r1++r2++r3):=by
  rw[hb,kqP,kqP,kqP];rfl
 have w0:w2 b 0=r0.length:=by rw[hb'];show(r0.length:Int) % 256+(r0.length:Int) / 256 % 256*256=_;omega
 have w1:w2 b 1=r1.length:=by rw[hb'];show(r1.length:Int) % 256+(r1.length:Int) / 256 % 256*256=_;omega
 have w2':w2 b 2=r2.length:=by rw[hb'];show(r2.length:Int) % 256+(r2.length:Int) / 256 % 256*256=_;omega
 have s0:seg b 6 r0.length=r0:=by
  have:=kaO six r0 (r1++r2++r3);rw[hs6] at this;rw[←this,hb,←hsix];simp only[List.append_assoc];rw[show r0.length=r0.length from rfl];unfold seg;congr 1
  simp[hs6,List.drop_append]
 have s1:seg b (6+r0.length) r1.length=r1:=by
  have:=kaO (six++r0) r1 (r2++r3);rw[List.length_append,hs6] at this;rw[hb,←hsix];simpa only [List.append_assoc] using this
 have s2:seg b (6+r0.length+r1.length) r2.length=r2:=by
  have:=kaO (six++r0++r1) r2 r3;rw[List.length_append,List.length_append,hs6] at this;rw[hb,←hsix];simpa only [List.append_assoc] using this
 have s3:seg b (6+r0.length+r1.length+r2.length) r3.length=r3:=by
  have:=kaO (six++r0++r1++r2) r3 [];rw[List.length_append,List.length_append,List.length_append,hs6] at this;rw[hb,←hsix];simpa only [List.append_assoc,List.append_nil] using this
 rw[(q5 (k:=r0.length) (wt:=each) (n:=3) (by rw[if_pos (by omega)];exact w0.symm) (by rw[if_pos (by omega)])).2.2 (by omega) p0 (by rw[Int.toNat_natCast,s0];exact h0),Int.toNat_natCast];rw[(q5 (k:=r1.length) (wt:=each) (n:=2) (by rw[if_pos (by omega)];exact w1.symm) (by rw[if_pos (by omega)])).2.2 (by omega) p1 (by rw[Int.toNat_natCast,s1];exact h1),Int.toNat_natCast];rw[(q5 (k:=r2.length) (wt:=each) (n:=1) (by rw[if_pos (by omega)];exact w2'.symm) (by rw[if_pos (by omega)])).2.2 (by omega) p2 (by rw[Int.toNat_natCast,s2];exact h2),Int.toNat_natCast];rw[(q5 (k:=r3.length) (wt:=N-3*each) (n:=0) (by rw[if_neg (by omega)];omega) (by rw[if_neg (by omega)])).2.2 (by omega) p3 (by rw[Int.toNat_natCast,s3];exact h3),Int.toNat_natCast];rw[kbx];simp only[List.nil_append]
def jM (lits:List Int) (i:Nat):List Int:=seg lits (i*((lits.length+3) / 4)) (min ((i+1)*((lits.length+3) / 4)) lits.length-i*((lits.length+3) / 4))
noncomputable def kaA (w:List Int) (M:Nat) (lits:List Int) (i:Nat):List Int:=rowP w M (jM lits i)
noncomputable def j8 (w:List Int) (M:Nat) (lits:List Int):Nat→List Int
 |0=>[]
 |i+1=>if i<3 then j8 w M lits i++leB ((kaA w M lits i).length:Nat) 2 else j8 w M lits i
noncomputable def keU (w:List Int) (M:Nat) (lits:List Int):Nat→List Int
 |0=>[]
 |i+1=>keU w M lits i++kaA w M lits i
theorem kmY {lits:List Int} {i:Nat} (h:256≤lits.length) (hi:i<4):(jM lits i).length=if i<3 then(lits.length+3) / 4 else lits.length-3*((lits.length+3) / 4):=by
 unfold jM;obtain⟨e,he⟩:∃e,e=(lits.length+3) / 4:=⟨_,rfl⟩;rw[←he];have h4:4*e≤lits.length+3∧lits.length≤4*e:=by omega
 obtain rfl|rfl|rfl|rfl:i=0∨i=1∨i=2∨i=3:=by omega
 all_goals
  rw[qz (by omega)];simp
  omega
theorem kg5 {lits:List Int} {p:Int→Prop} (h:∀c∈lits,p c) (i:Nat):∀c∈jM lits i,p c:=kds h
theorem khE (b:List Int) (o n m:Nat):seg b o n++seg b (o+n) m=seg b o (n+m):=by
 unfold seg;rw[List.take_add,List.drop_drop]
theorem kmZ {lits:List Int} (h:256≤lits.length):jM lits 0++jM lits 1++jM lits 2++jM lits 3=lits:=by
 unfold jM;obtain⟨e,he⟩:∃e,e=(lits.length+3) / 4:=⟨_,rfl⟩;rw[←he];have h4:4*e≤lits.length+3∧lits.length≤4*e:=by omega
 have e0:min ((0+1)*e) lits.length-0*e=e:=by omega
 have e1:min ((1+1)*e) lits.length-1*e=e:=by omega
 have e2:min ((2+1)*e) lits.length-2*e=e:=by omega
 have e3:min ((3+1)*e) lits.length-3*e=lits.length-3*e:=by omega
 rw[e0,e1,e2,e3,show 0*e=0 by omega,show 1*e=0+e by omega,khE,show 2*e=0+(e+e) by omega,khE,show 3*e=0+(e+e+e) by omega,khE];unfold seg;rw[List.drop_zero];exact List.take_of_length_le (by omega)
theorem kqQ {w lits:List Int} {M:Nat} (hl:∀c∈w,kv c) (hW:Wt w M) (hb:∀c∈lits,kv c) (hN:256≤lits.length) (hall:∀i,i<4→qJ w (jM lits i) (jM lits i).length) (hsz:∀i,i<3→(kaA w M lits i).length<65536) :
  qa w (j8 w M lits 4++keU w M lits 4) lits.length 4=some lits:=by
 have hp:∀i,i<4→unR w (kaA w M lits i) (jM lits i).length=some (jM lits i):=fun i hi=>kjs hl hW (kg5 hb i) (hall i hi)
 have p0:=hp 0 (by omega);have p1:=hp 1 (by omega);have p2:=hp 2 (by omega);have p3:=hp 3 (by omega);rw[kmY hN (by omega)] at p0 p1 p2 p3;simp only[if_pos (show 0<3 by omega),if_pos (show 1<3 by omega),if_pos (show 2<3 by omega),if_neg (show ¬3<3 by omega)] at p0 p1 p2 p3;have h:=kpH (N:=lits.length) (each:=((lits.length+3) / 4:Nat)) p0 p1 p2 (by rw[show((lits.length:Int)-3*((lits.length+3) / 4:Nat))=((lits.length-3*((lits.length+3) / 4):Nat):Int) by omega];exact p3) (hsz 0 (by omega)) (hsz 1 (by omega)) (hsz 2 (by omega));rw[kmZ hN] at h;have hbody:j8 w M lits 4++keU w M lits 4=leB (kaA w M lits 0).length 2++leB (kaA w M lits 1).length 2++leB (kaA w M lits 2).length 2++(kaA w M lits 0++kaA w M lits 1++kaA w M lits 2++kaA w M lits 3):=by
  simp[j8,keU]
 rw[hbody];have hlen:6≤(leB ((kaA w M lits 0).length:Int) 2++leB (kaA w M lits 1).length 2++leB (kaA w M lits 2).length 2++(kaA w M lits 0++kaA w M lits 1++kaA w M lits 2++kaA w M lits 3)).length:=by simp[kT];omega
 unfold qa;rw[if_neg (by decide),if_neg (by omega)];rw[show((lits.length:Int)+3) / 4=((lits.length+3) / 4:Nat) by omega];exact h
theorem kqR {w lits:List Int} {M:Nat} (hl:∀c∈w,kv c) (hW:Wt w M) (hb:∀c∈lits,kv c) (hall:qJ w lits lits.length):qa w (rowP w M lits) lits.length 1=some lits:=by
 unfold qa;rw[if_pos rfl];exact kjs hl hW hb hall
theorem koN {l:List Int} {M:Nat} (hl:∀c∈l,kv c) (hW:Wt l M):OkE (l.take (l.length-1)) l:=by
 obtain⟨h1,h2,h3,h4,h5,h6,h7⟩:=id hW;obtain⟨n,hn⟩:∃n,l.length=n+1:=⟨l.length-1,by omega⟩;have hlt:(l.take (l.length-1)).length=n:=by rw[List.length_take];omega
 have hg:∀i,i<n→(l.take (l.length-1)).getD i 0=l.getD i 0:=fun i hi=>by
  rw[List.getD_eq_getElem?_getD,List.getD_eq_getElem?_getD,List.getElem?_take,if_pos (by omega)]
 have hsm:∀i,i≤n→sm (l.take (l.length-1)) i=sm l i:=by
  intro i;induction i with
  |zero=>intro _;rfl
  |succ i ih=>intro hi;rw[sm,sm,ih (by omega),hg i (by omega)]
 obtain⟨x,hx⟩:∃x,l.getD n 0=x:=⟨_,rfl⟩;have hx8:=jm hl n;rw[show l.length-1=n by omega] at h3;have hxM:=hW.le n (by omega);rw[hx] at h3 hx8 hxM;obtain⟨k,hk⟩:∃k:Nat,x=(k:Int)+1:=⟨(x-1).toNat,by omega⟩;have hs:smA (l.take (l.length-1))=2^M-2^k:=by
  unfold smA;rw[hlt,hsm n (Nat.le_refl _)];rw[hn,sm,hx] at h6;have:pw x=2^k:=by rw[kp8 (L:=k+1) (by omega) (by omega)];rfl
  omega
 obtain⟨M',rfl⟩:∃M',M=M'+1:=⟨M-1,by omega⟩;have hpk:(2:Int)^k≤2^M':=by exact_mod_cast Nat.pow_le_pow_right (by decide:1≤2) (show k≤M' by omega)
 have hpk0:(0:Int)<2^k:=Int.pow_pos (by decide);have hps:(2:Int)^(M'+1)=2^M'*2:=Int.pow_succ _ _;have hbl:kK (smA (l.take (l.length-1)))=M'+1:=by rw[hs];exact khv (by omega) (by omega)
 refine⟨by rw[hlt];omega,fun i hi=>?_,by rw[hs];omega,⟨k,?_,?_⟩,_,hW⟩
 ·rw[hlt] at hi;rw[hg i hi];exact h4 i (by omega)
 ·rw[hbl,hs,show((M':Int)+1).toNat=M'+1 by omega];omega
 ·rw[←hk,←hx];apply List.ext_getElem
  ·simp;omega
  ·intro i hi1 hi2;rw[List.getElem_append];split
   ·rw[List.getElem_take]
   ·rename_i hge;have:i=n:=by rw[hlt] at hge;omega
    subst this;simp[List.getD_eq_getElem?_getD,List.getElem?_eq_getElem hi1]
theorem km0 {l d:List Int} {M:Nat} (hl:∀c∈l,kv c) (hW:Wt l M) (hn:l.length≤129) (hd:∀c∈d,kv c) (hdl:d.length=1+l.length / 2) (h0:d.getD 0 0=127+((l.length:Int)-1)) (hnib:∀i,i<l.length-1→kcR d i=l.getD i 0):kb1 l d:=by
 have h2:=hW.1;refine⟨hd,by omega,by omega,fun rest=>?_⟩
 have g0:(d++rest).getD 0 0=127+((l.length:Int)-1):=by rw[gL (by omega),h0]
 have hhn:hnW (d++rest)=((l.length / 2:Nat):Int):=by unfold hnW;rw[g0,if_pos (by omega)];omega
 refine⟨kgb (fun h=>?_) ⟨l.take (l.length-1),?_,koN hl hW⟩,by rw[hhn];omega⟩
 ·unfold jR at h;rw[hhn] at h;rcases h with h|h<;>simp only[List.length_append,List.length_cons] at h<;>omega
 ·unfold kg3;rw[g0,if_pos (by omega)];congr 1
  rw[show(127+((l.length:Int)-1)-127).toNat=l.length-1 by omega];apply List.ext_getElem
  ·rw[kdw,List.length_take];omega
  ·intro i h1 h3;rw[kdw] at h1;have hi:kcR (d++rest) i=kcR d i:=by
    unfold kcR;rw[gL (by omega)]
   simp only[ka8,List.getElem_map,List.getElem_range,hi,hnib i h1,List.getElem_take];rw[List.getD_eq_getElem?_getD,List.getElem?_eq_getElem (by omega)];rfl
theorem kju {l b:List Int} {M:Nat} (hl:∀c∈l,kv c) (hW:Wt l M) (hb:∀x∈b,isByte x) (hbl:b.length≤127) (hbs:bst 256 b=some (l.take (l.length-1))):kb1 l ((b.length:Int)::b):=by
 refine⟨fun c hc=>?_,by simp,by simp;omega,fun rest=>?_⟩
 ·rcases List.mem_cons.1 hc with rfl|hc
  ·unfold kv;omega
  ·have:=hb c hc;unfold isByte at this;unfold kv;omega
 have g0:((b.length:Int)::b++rest).getD 0 0=b.length:=rfl;have hhn:hnW ((b.length:Int)::b++rest)=b.length:=by unfold hnW;rw[g0,if_neg (by omega)]
 refine⟨kgb (fun h=>?_) ⟨l.take (l.length-1),?_,koN hl hW⟩,by rw[hhn];simp;omega⟩
 ·unfold jR at h;rw[hhn] at h;rcases h with h|h<;>simp only[List.length_append,List.length_cons] at h<;>omega
 ·unfold kg3;rw[g0,if_neg (by omega),Int.toNat_natCast];rw[show(((b.length:Int)::b++rest).drop 1).take b.length=b by simp];exact hbs
set_option maxRecDepth 100000
theorem kg6 (w b:List Int) (cap cap2:Nat) (hw8:∀c∈w,kv c) (hwl:w.length≤140737488355328) (hb:∀c∈b,kv c) (hbl:b.length≤131072) :
    Con Try.prog 47 [.slice 0 .z 1 w.length cap,.slice 1 .z 1 b.length cap2] [.ro .u8 w,.ro .u8 b] (fun v H R=>R=[] ∧
      ((∃e:Int,e≠0∧H=[.ro .u8 w,.ro .u8 b]∧v=.tup [.val (.slice none 0 0),.int .i64 e]) ∨
       ∃M c' r,Wt w M∧qJ w b b.length∧r=rowP w M b∧H=[.ro .u8 w,.ro .u8 b,.buf 5 .u8 r c']∧v=.tup [.slice 2 .z 1 r.length c',.int .i64 0])):=by
  by_cases hW:∃M,Wt w M
  · obtain⟨M,hW⟩:=hW
    refine kG (Con.mono (koz w b cap cap2 M hw8 hb hW hbl) ?_)
    rintro v H R ⟨rfl,L,c',rfl,⟨rfl,h⟩|⟨rfl,h1,h2⟩⟩
    · exact⟨[0,1],.tup [.val (.slice none 0 0),.int .i64 2],[.ro .u8 w,.ro .u8 b],rfl,rfl,rfl,rfl,⟨rfl,rfl,trivial⟩,rfl,.inl ⟨2,by decide,rfl,rfl⟩⟩
    · exact⟨[0,1,2],.tup [.slice 2 .z 1 L.length c',.int .i64 0],[.ro .u8 w,.ro .u8 b,.buf 5 .u8 L c'],rfl,rfl,rfl,rfl,⟨rfl,rfl,rfl,trivial⟩,rfl,.inr ⟨M,c',L,hW,h2,h1,rfl,rfl⟩⟩
  · refine(kmJ w b cap cap2 hw8 hwl (fun M h=>hW ⟨M,h⟩)).mono ?_
    rintro v H R ⟨rfl,rfl,rfl⟩;exact⟨rfl,.inl ⟨50,by decide,rfl,rfl⟩⟩
def SecOk (w d lits:List Int) (K:Nat) (b:List Int):Prop:=∃(hd body:List Int) (S:Nat),b=hd++(d++body)∧PkH hd K lits.length (d++body).length S∧qa w body lits.length S=some lits∧∀c∈b,kv c
theorem kjv {w d lits body:List Int} {K F b t s:Nat} (hF:PkF F b t s) (hK:2≤K∧K<4) (hN:lits.length<2^t) (hL:(d++body).length<2^t) (hr:qa w body lits.length s=some lits) (hd:∀c∈d,kv c) (hb:∀c∈body,kv c) :
    SecOk w d lits K (leB ((qA K F lits.length (d++body).length t:Nat):Int) b++(d++body)):=by
  refine⟨_,body,s,rfl,kqO hF hK hN hL,hr,fun c hc=>?_⟩
  rcases List.mem_append.1 hc with hc|hc
  · exact kec _ _ c hc
  · rcases List.mem_append.1 hc with hc|hc
    · exact hd c hc
    · exact hb c hc
theorem kkE (lits w d:List Int) (c0 cw cd K:Nat) (hl8:∀c∈lits,kv c) (hw8:∀c∈w,kv c) (hd8:∀c∈d,kv c) (hN:lits.length<256) (hwl:w.length≤140737488355328) (hdl:d.length≤129) (hK:2≤K∧K<4) :
    Con Try.prog 53 [.slice 0 .z 1 lits.length c0,.slice 1 .z 1 w.length cw,.slice 2 .z 1 d.length cd,.int .i64 (K:Int)] [.ro .u8 lits,.ro .u8 w,.ro .u8 d] (fun v H R=>R=[] ∧
      ((v=.val (.slice none 0 0)∧H=[.ro .u8 lits,.ro .u8 w,.ro .u8 d]) ∨
       ∃b c',SecOk w d lits K b∧b.length≤c'∧v=.slice 3 .z 1 b.length c'∧H=[.ro .u8 lits,.ro .u8 w,.ro .u8 d,.buf 5 .u8 b c'])):=by
  have hpq:=kg6 w lits cw c0 hw8 hwl hl8 (by omega);have hrow:∀M,Wt w M→qJ w lits lits.length→qa w (rowP w M lits) lits.length 1=some lits:=fun M h1 h2=>kqR hw8 h1 hl8 h2
  have hrl:∀M,Wt w M→(rowP w M lits).length≤2*lits.length+1:=fun M h=>kjt h lits
  have hr8:=fun M=>klt w M lits
  have hjn:=fun(B:List Int) (cb:Nat) (h:B.length≤1000000)=>kdy B cb K 0 lits.length 3 10 1 (.inl ⟨rfl,rfl,rfl,rfl⟩) hK.2 (by omega) h
  have hsec:=fun(body:List Int) h1 h2 h3 h4=>kjv (w:=w) (d:=d) (lits:=lits) (body:=body) (F:=0) (b:=3) (t:=10) (s:=1) (.inl ⟨rfl,rfl,rfl,rfl⟩) hK h1 h2 h3 hd8 h4
  generalize qA K 0 lits.length=JN at *;generalize hSE:SecOk w d lits K=SE at *;generalize hn:lits.length=n at *;generalize hwn:w.length=wn at *;generalize hdn:d.length=dn at *;obtain⟨KI,hKI⟩:∃x:Int,x=K:=⟨_,rfl⟩;obtain⟨nI,hnI⟩:∃x:Int,x=n:=⟨_,rfl⟩;rw[←hKI] at hjn ⊢
  rw[←hnI] at hjn;refine kj (kG (km (kg kr krk ?_)))
  intro _ vc _ _ vofN vaddN _ _ _ _ _ _ vln _ vsub vonto _ _ _ _ _ _ _ qc _ _ qofN qaddN _ _ _ _ _ _ qln _ qsub qonto _ _ _ _ _;have hm:=kr;generalize Try.prog=P at *;have hadd0:∀i,vaddN 0 i=i:=fun i=>by simp only[qaddN,Nat.zero_add]
  have en:vofN n=nI:=by rw[qofN,hnI]
  have hlt:vc .lss nI 256=true:=by rw[qc,kf];omega
  have hn1024:n<1024:=by omega
  have n00:vc .neq 0 0=false:=by rw[qc];rfl
  have ln0:vln []=0:=by rw[qln];rfl
  have hld:vln d=dn:=by rw[qln];exact hdn
  cbv;rw[en,hlt];cbv;refine ka (ρ:=[(1,.z),(0,.z)]) hpq ⟨by rfl,by rfl,by rfl,by cbv;(repeat' first|(refine And.intro ?_ ?_)|exact trivial|exact⟨Nat.le_refl _⟩|exact kb _|exact fun _=>rfl|(simp only[renL3];done)|(show SB.roA _ _ _=SB.roA _ _ _;rfl)|exact funext fun _=>rfl)⟩ ?_
  rintro v H R js ⟨rfl,⟨e,he,rfl,rfl⟩|⟨M,cr,r,hW,hall,hr,rfl,rfl⟩⟩
  · have hne:vc .neq e 0=true:=by rw[qc,jl];exact he
    cbv;rw[hne];cbv;exact⟨[0,1,2],.val (.slice none 0 0),[.ro .u8 lits,.ro .u8 w,.ro .u8 d],rfl,rfl,rfl,rfl,⟨rfl,rfl,rfl,trivial⟩,rfl,.inl ⟨rfl,rfl⟩⟩
  · have hrow:=hrow M hW hall
    have hrl:=hrl M hW;have hr8:=hr8 M;rw[←hr] at hrow hrl hr8;obtain⟨rn,hrn⟩:∃x,x=r.length:=⟨_,rfl⟩;rw[←hrn] at hrl ⊢
    have hlr:vln r=rn:=by rw[qln,hrn]
    have hont1:vonto [] 0 (vsub d 0 dn)=d:=by
      have:d.take dn=d:=by rw[←hdn];exact List.take_length
      rw[qonto,qsub];simp[this]
    have hont2:vonto d dn (vsub r 0 rn)=d++r:=by
      have h1:d.take dn=d:=by rw[←hdn];exact List.take_length
      have h2:r.take rn=r:=by rw[hrn];exact List.take_length
      rw[qonto,qsub];simp[h1,h2]
    obtain⟨B,hB⟩:∃B,B=d++r:=⟨_,rfl⟩;obtain⟨bn,hbn⟩:∃x,x=dn+rn:=⟨_,rfl⟩;have hBl:B.length=bn:=by rw[hB,List.length_append,hdn,←hrn,hbn]
    have ha2:vaddN dn rn=bn:=by rw[qaddN,hbn]
    have hbn2:bn≤1000:=by omega
    rw[←hB] at hont2;have hjn:=fun cb=>hjn B cb (by omega)
    rw[hBl] at hjn;have hsec:=hsec r;rw[←hB,hBl] at hsec;clear hpq hW hall;cbv;rw[n00];cbv;have ha1:=hadd0 dn;refine⟨⟨by rw[ha1,hld];exact Nat.le_refl _⟩,⟨by rw[ln0];exact Nat.le_refl _⟩,⟨by rw[ln0];exact Nat.le_refl _⟩,⟨by rw[ha1];((try simp only[nc] at *);omega)⟩,?_⟩
    intro c1 jv1 hle1;have hlz1:dn≤c1:=by have:=hle1.out;simp only at this;rw[ha1] at this;exact this
    cbv;rw[hont1,ha1];refine⟨⟨by rw[hadd0,hlr];exact Nat.le_refl _⟩,⟨by rw[hld];exact Nat.le_refl _⟩,⟨Nat.le_refl _⟩,⟨by rw[ha2];((try simp only[nc] at *);omega)⟩,?_⟩
    intro c2 jv2 hle2;have hlz2:bn≤c2:=by have:=hle2.out;simp only at this;rw[ha2] at this;exact this
    have hjn:=hjn c2;cbv;rw[hont2,ha2,en];refine ka (ρ:=[(4,.z)]) hjn ⟨by rfl,by rfl,by rfl,by cbv;(repeat' first|(refine And.intro ?_ ?_)|exact trivial|exact⟨Nat.le_refl _⟩|exact kb _|exact fun _=>rfl|(simp only[renL3];done)|(show SB.roA _ _ _=SB.roA _ _ _;rfl)|exact funext fun _=>rfl)⟩ ?_
    rintro v H R js2 ⟨rfl,⟨_,rfl,rfl⟩|⟨⟨_,hb10⟩,c',hc',rfl,rfl⟩⟩
    · cbv
      exact⟨[0,1,2],.val (.slice none 0 0),[.ro .u8 lits,.ro .u8 w,.ro .u8 d],rfl,rfl,rfl,rfl,⟨rfl,rfl,rfl,trivial⟩,rfl,.inl ⟨rfl,rfl⟩⟩
    · have hs:=hsec (by exact hn1024) hb10 hrow (fun c hc=>hr8 c hc)
      obtain⟨X,hX⟩:∃X,X=leB ((JN bn 10:Nat):Int) 3++B:=⟨_,rfl⟩;have hXl:X.length=3+bn:=by rw[hX,List.length_append,kT,hBl]
      obtain⟨x3,hx3⟩:∃x,x=3+bn:=⟨_,rfl⟩;rw[←hx3] at hXl hc' ⊢
      rw[←hX] at hs ⊢
      clear hsec hjn hX hx3;cbv;subst hXl;exact⟨[0,1,2,5],.slice 3 .z 1 X.length c',[.ro .u8 lits,.ro .u8 w,.ro .u8 d,.buf 5 .u8 X c'],rfl,rfl,rfl,rfl,⟨rfl,rfl,rfl,rfl,trivial⟩,rfl,.inr ⟨X,c',hs,hc',rfl,rfl⟩⟩
open Classical in
noncomputable def Mof (w:List Int):Nat:=if h:∃M,Wt w M then h.choose else 0
theorem koO {w:List Int} {M:Nat} (h:Wt w M):Mof w=M:=by
  have hh:∃M,Wt w M:=⟨M,h⟩;unfold Mof;rw[dif_pos hh];exact Wt.uniq hh.choose_spec h
def RowsOk (w lits:List Int) (i:Nat):Prop:=∀j,j<i→Wt w (Mof w)∧qJ w (jM lits j) (jM lits j).length∧(kaA w (Mof w) lits j).length<65536
theorem RowsOk.zero (w lits:List Int):RowsOk w lits 0:=fun j h=>absurd h (by omega)
theorem RowsOk.step {w lits:List Int} {i M:Nat} (h:RowsOk w lits i) (hW:Wt w M) (ha:qJ w (jM lits i) (jM lits i).length) (hl:(rowP w M (jM lits i)).length<65536):RowsOk w lits (i+1):=fun j hj=>by
  by_cases e:j=i
  · subst e
    have:=koO hW;subst this;exact⟨hW,ha,hl⟩
  · exact h j (by omega)
theorem ked (w:List Int) (M:Nat) (lits:List Int):∀i,(j8 w M lits i).length=2*min i 3
  |0=>rfl
  | i+1=>by
    rw[j8];split
    · rw[List.length_append,kT,ked w M lits i];omega
    · rw[ked w M lits i];omega
theorem kgd (w:List Int) (M:Nat) (lits:List Int):∀i,∀c∈j8 w M lits i,kv c
  |0,c,h=>by simp[j8] at h
  | i + 1,c,h=>by
    rw[j8] at h;split at h
    · rcases List.mem_append.1 h with h|h
      · exact kgd w M lits i c h
      · exact kec _ _ c h
    · exact kgd w M lits i c h
theorem koP (w:List Int) (M:Nat) (lits:List Int):∀i,∀c∈keU w M lits i,kv c
  |0,c,h=>by simp[keU] at h
  | i+1,c,h=>by
    rw[keU] at h;rcases List.mem_append.1 h with h|h
    · exact koP w M lits i c h
    · exact klt w M _ c h
theorem kpI {w d lits:List Int} {K F b t s:Nat} (hF:PkF F b t s) (hF1:1≤F) (hK:2≤K∧K<4) (hw8:∀c∈w,kv c) (hl8:∀c∈lits,kv c) (hd:∀c∈d,kv c) (h256:256≤lits.length) (hok:RowsOk w lits 4) (hN:lits.length<2^t) (B:List Int)
    (hB:B=d++(j8 w (Mof w) lits 4++keU w (Mof w) lits 4)) (hL:B.length<2^t):SecOk w d lits K (leB ((qA K F lits.length B.length t:Nat):Int) b++B):=by
  subst hB;have hs:s=4:=by unfold PkF at hF;omega
  subst hs;refine kjv hF hK hN hL (kqQ hw8 (hok 0 (by omega)).1 hl8 h256 (fun i hi=>(hok i hi).2.1) (fun i hi=>(hok i (by omega)).2.2)) hd (fun c hc=>?_)
  rcases List.mem_append.1 hc with hc|hc
  · exact kgd _ _ _ _ c hc
  · exact koP _ _ _ _ c hc
theorem kpJ {lits:List Int} {N e i:Nat} (hN:lits.length=N) (h256:256≤N) (he:e=(N+3) / 4) (hi:i<4) :
    i*e<N∧i*e≤min ((i+1)*e) N∧min ((i+1)*e) N≤N∧(jM lits i).length=min ((i+1)*e) N-i*e∧jM lits i=seg lits (i*e) (min ((i+1)*e) N-i*e):=by
  have h4:4*e≤N+3∧N≤4*e:=by omega
  have hp:jM lits i=seg lits (i*e) (min ((i+1)*e) N-i*e):=by unfold jM;rw[hN,←he]
  have h1:i*e<N∧i*e≤min ((i+1)*e) N:=by
    obtain rfl|rfl|rfl|rfl:i=0∨i=1∨i=2∨i=3:=by omega
    all_goals omega
  refine⟨h1.1,h1.2,Nat.min_le_right _ _,?_,hp⟩
  rw[hp,qz (by rw[hN];omega)]
theorem kkF (lits w d:List Int) (c0 cw cd K:Nat) (hl8:∀c∈lits,kv c) (hw8:∀c∈w,kv c) (hd8:∀c∈d,kv c) (h256:256≤lits.length) (hN:lits.length≤131072) (hc0:lits.length≤c0) (hwl:w.length≤140737488355328) (hdl:d.length≤129) (hK:2≤K∧K<4) :
    Con Try.prog 53 [.slice 0 .z 1 lits.length c0,.slice 1 .z 1 w.length cw,.slice 2 .z 1 d.length cd,.int .i64 (K:Int)] [.ro .u8 lits,.ro .u8 w,.ro .u8 d] (fun v H R=>R=[] ∧
      ((v=.val (.slice none 0 0)∧H=[.ro .u8 lits,.ro .u8 w,.ro .u8 d]) ∨
       ∃b c',SecOk w d lits K b∧b.length≤c'∧v=.slice 3 .z 1 b.length c'∧H=[.ro .u8 lits,.ro .u8 w,.ro .u8 d,.buf 5 .u8 b c'])):=by
  obtain⟨N,hNn⟩:∃N,lits.length=N:=⟨_,rfl⟩;obtain⟨e,he⟩:∃e,e=(N+3) / 4:=⟨_,rfl⟩;have he4:e≤40000∧1≤e:=by omega
  have hpt:=fun i (hi:i<4)=>kpJ hNn (by omega) he hi
  have hpq:=fun i c2 (hi:i<4)=>kg6 w (jM lits i) cw c2 hw8 hwl (kg5 hl8 i) (by have:=hpt i hi;omega)
  have hput:=@kmp;have hjn:=fun(B:List Int) (cb F b t s:Nat) (hF:PkF F b t s) (h:B.length≤1000000)=>kdy B cb K F lits.length b t s hF hK.2 hN h
  have hrow:=fun(i M:Nat) (hW:Wt w M)=>kjt hW (jM lits i)
  have hz0:=RowsOk.zero w lits;have hstep:=@RowsOk.step w lits;have hsz0:j8 w (Mof w) lits 0=[]:=rfl;have hal0:keU w (Mof w) lits 0=[]:=rfl;have hszs:∀i,j8 w (Mof w) lits (i+1)=if i<3 then j8 w (Mof w) lits i++leB ((kaA w (Mof w) lits i).length:Nat) 2 else j8 w (Mof w) lits i:=fun _=>rfl
  have hals:∀i,keU w (Mof w) lits (i+1)=keU w (Mof w) lits i++kaA w (Mof w) lits i:=fun _=>rfl
  have hrI:∀i M,Wt w M→kaA w (Mof w) lits i=rowP w M (jM lits i):=fun i M h=>by rw[koO h];rfl
  have hsec:=fun(F b t s:Nat) (hF:PkF F b t s) (hF1:1≤F) (hok:RowsOk w lits 4)=>kpI (K:=K) (d:=d) hF hF1 hK hw8 hl8 hd8 h256 hok
  have hszl:=ked w (Mof w) lits;have hpk:=keJ;rw[hNn] at hjn hsec hN hc0 h256 ⊢
  generalize RowsOk w lits=RO at *;generalize j8 w (Mof w) lits=SZ at *;generalize keU w (Mof w) lits=AL at *;generalize kaA w (Mof w) lits=RI at *;generalize SecOk w d lits K=SE at *;generalize hwn:w.length=wn at *;generalize hdn:d.length=dn at *;obtain⟨KI,hKI⟩:∃x:Int,x=K:=⟨_,rfl⟩;obtain⟨nI,hnI⟩:∃x:Int,x=N:=⟨_,rfl⟩;obtain⟨eI,heI⟩:∃x:Int,x=e:=⟨_,rfl⟩;rw[←hKI] at hjn ⊢
  rw[←hnI] at hjn;refine kj (kG (km (kg kr krk ?_)))
  intro vb vc vw vtoN vofN vaddN vsubN _ vminI vcutN _ _ vln _ vsub vonto _ _ _ _ _ hw qb qc qw qtoN qofN qaddN qsubN _ qminI qcutN _ _ qln _ qsub qonto _ _ _ _ _;have hm:=kr;generalize Try.prog=P at *;have hto:∀i:Nat,vtoN (i:Int)=i:=fun i=>by simp only[qtoN,Int.toNat_natCast]
  have hadd0:∀i,vaddN 0 i=i:=fun i=>by simp only[qaddN,Nat.zero_add]
  have en:vofN N=nI:=by rw[qofN,hnI]
  have hlt:vc .lss nI 256=false:=by rw[qc,ke];omega
  have n00:vc .neq 0 0=false:=by rw[qc];rfl
  have ln0:vln []=0:=by rw[qln];rfl
  have hld:vln d=dn:=by rw[qln];exact hdn
  have hquo:vb .quo .i64 (vb .add .i64 nI 3) 4=eI:=by
    rw[qb,kh (by omega) (by omega),j3 (by omega) (by omega) (by omega)];omega
  cbv;rw[en,hlt];cbv;rw[en,hquo];refine WX.cv (Cv.intsB 3 0 (by rfl) (by rfl) (Cv.here ?_))
  refine WX.cv (Cv.intsB 4 0 (by rfl) (by rfl) (Cv.here ?_))
  refine kl (α:=Int×List Int×Nat×Nat×List Int×Nat×Nat) ([14,15,16,17,45,46]++(List.range' 48 38)) [3,4] (fun(k,s,sn,sc,a,an,ac)=>[(47,.int .i64 k),(12,.slice 3 .z 1 sn sc),(13,.slice 4 .z 1 an ac)]) (fun(k,s,sn,sc,a,an,ac)=>[(3,.buf 5 .u8 s sc),(4,.buf 5 .u8 a ac)])
    (fun(k,s,sn,sc,a,an,ac)=>∃i:Nat,k=i∧i≤4∧s=SZ i∧a=AL i∧sn=s.length∧an=a.length∧sn≤sc∧an≤ac∧an≤70000*i∧RO i) (fun(k,_)=>4-k.toNat) hw hm ?_ ?_
  · refine Cv.genAt [47] [] (Cv.fold ([14,15,16,17,45,46]++(List.range' 48 38)) 5 [3,4] (by exact Nat.le_refl _) (by exact Nat.le_of_ble_eq_true rfl) (by rfl) (by cbv) ?_)
    intro js;exact⟨(_,_,_,_,_,_,_),⟨0,rfl,by decide,hsz0.symm,hal0.symm,rfl,rfl,Nat.le_refl _,Nat.le_refl _,Nat.zero_le _,hz0⟩,js,rfl⟩
  · rintro ⟨k, s, sn,sc,a,an,ac⟩ js ⟨i,hk,hi,hs,ha,hsn,han,hsc,hac,han2,hok⟩
    by_cases hi4:i=4
    · subst hi4
      have hz:vc .lss k 4=false:=by rw[qc,ke];((try simp only[nc] at *);omega)
      have hs6:sn=6:=by rw[hsn,hs,hszl 4];rfl
      have hsec:=fun(F b t s:Nat) (hF:PkF F b t s) (hF1:1≤F)=>hsec F b t s hF hF1 hok
      rw[←hs,←ha] at hsec;obtain⟨B,hB⟩:∃B,B=d++(s++a):=⟨_,rfl⟩;obtain⟨B1,hB1⟩:∃B,B=d++s:=⟨_,rfl⟩;obtain⟨bn1,hbn1⟩:∃x,x=dn+sn:=⟨_,rfl⟩;obtain⟨bn,hbn⟩:∃x,x=bn1+an:=⟨_,rfl⟩;have hB1l:B1.length=bn1:=by rw[hB1,List.length_append,hdn,←hsn,hbn1]
      have hBB1:B=B1++a:=by rw[hB,hB1,List.append_assoc]
      have hBl:B.length=bn:=by rw[hBB1,List.length_append,hB1l,←han,hbn]
      have hbnM:bn≤400000:=by omega
      have hont0:vonto [] 0 (vsub d 0 dn)=d:=by
        have:d.take dn=d:=by rw[←hdn];exact List.take_length
        rw[qonto,qsub];simp[this]
      have hont1:vonto d dn (vsub s 0 sn)=B1:=by
        have h1:d.take dn=d:=by rw[←hdn];exact List.take_length
        have h2:s.take sn=s:=by rw[hsn];exact List.take_length
        rw[qonto,qsub,hB1];simp[h1,h2]
      have hont2:vonto B1 bn1 (vsub a 0 an)=B:=by
        have h1:B1.take bn1=B1:=by rw[←hB1l];exact List.take_length
        have h2:a.take an=a:=by rw[han];exact List.take_length
        rw[qonto,qsub,hBB1];simp[h1,h2]
      have ha0:=hadd0 dn;have ha1:vaddN dn sn=bn1:=by rw[qaddN,hbn1]
      have ha2:vaddN bn1 an=bn:=by rw[qaddN,hbn]
      have hls:vln s=sn:=by rw[qln,hsn]
      have hla:vln a=an:=by rw[qln,han]
      have hlB1:vln B1=bn1:=by rw[qln];exact hB1l
      have hsec:=fun(F b t s:Nat) (hF:PkF F b t s) (hF1:1≤F) (h:N<2^t)=>hsec F b t s hF hF1 h B hB
      have hjn:=fun(cb F b t s:Nat) (hF:PkF F b t s)=>hjn B cb F b t s hF (by omega)
      rw[hBl] at hsec hjn;obtain⟨bnI,hbnI⟩:∃x:Int,x=bn:=⟨_,rfl⟩;have ebn:vofN bn=bnI:=by rw[qofN,hbnI]
      clear hpt hpq hput hrow hz0 hstep hsz0 hal0 hszs hals hrI hszl hs ha hok han2 hB hB1 hBB1;cbv;rw[hz];cbv;refine⟨⟨by rw[ha0,hld];exact Nat.le_refl _⟩,⟨by rw[ln0];exact Nat.le_refl _⟩,⟨by rw[ln0];exact Nat.le_refl _⟩,⟨by rw[ha0];((try simp only[nc] at *);omega)⟩,?_⟩
      intro c1 jv1 hle1;have hlz1:dn≤c1:=by have:=hle1.out;simp only at this;rw[ha0] at this;exact this
      cbv;rw[hont0,ha0];refine⟨⟨by rw[hadd0,hls];exact Nat.le_refl _⟩,⟨by rw[hld];exact Nat.le_refl _⟩,⟨Nat.le_refl _⟩,⟨by rw[ha1];((try simp only[nc] at *);omega)⟩,?_⟩
      intro c2 jv2 hle2;have hlz2:bn1≤c2:=by have:=hle2.out;simp only at this;rw[ha1] at this;exact this
      cbv;rw[hont1,ha1];refine⟨⟨by rw[hadd0,hla];exact Nat.le_refl _⟩,⟨by rw[hlB1];exact Nat.le_refl _⟩,⟨Nat.le_refl _⟩,⟨by rw[ha2];((try simp only[nc] at *);omega)⟩,?_⟩
      intro c3 jv3 hle3;have hlz3:bn≤c3:=by have:=hle3.out;simp only at this;rw[ha2] at this;exact this
      cbv;rw[hont2,ha2];refine ka (ρ:=[]) hpk ⟨by rfl,by rfl,by rfl,by cbv⟩ ?_
      rintro v H R js2 ⟨rfl,rfl,rfl⟩;cbv;refine kl (α:=Int) ([19,20]++(List.range' 95 30)) [5,3,4] (fun k=>[(94,.int .i64 k)]) (fun _=>[]) (fun k=>∃i:Nat,k=i∧i≤4) (fun k=>4-k.toNat) hw hm ?_ ?_
      · refine Cv.genAt [94] [] (Cv.fold ([19,20]++(List.range' 95 30)) 6 [5,3,4] (by exact Nat.le_refl _) (by exact Nat.le_of_ble_eq_true rfl) (by rfl) (by cbv) ?_)
        intro js;exact⟨_,⟨0,rfl,by decide⟩,js,rfl⟩
      · rintro k js ⟨i,hk,hi⟩
        by_cases hi4:i=4
        · have hz:vc .lss k 4=false:=by rw[qc,ke];((try simp only[nc] at *);omega)
          cbv;rw[hz];cbv;exact⟨[0,1,2],.val (.slice none 0 0),[.ro .u8 lits,.ro .u8 w,.ro .u8 d],rfl,rfl,rfl,rfl,⟨rfl,rfl,rfl,trivial⟩,rfl,.inl ⟨rfl,rfl⟩⟩
        · have hz : vc .lss k 4=true:=by rw[qc,kf];((try simp only[nc] at *);omega)
          obtain⟨k1,hk1⟩:∃k1:Int,k1=((i+1:Nat):Int):=⟨_,rfl⟩;have ek:vb .add .i64 k 1=k1:=by(try simp only[nc] at *);rw[qb,kh (by omega) (by omega)];omega
          have hmu:4-k1.toNat<4-k.toNat:=by((try simp only[nc] at *);omega)
          have hti:vtoN k=i:=by rw[hk];exact hto i
          have hkR:0≤k∧k<((4:Nat):Int):=by((try simp only[nc] at *);omega)
          have hgo:(∃i:Nat,k1=i∧i≤4)∧4-k1.toNat<4-k.toNat:=⟨⟨i+1,hk1,by omega⟩,hmu⟩;rcases(show i=0∨i=1∨i=2∨i=3 by omega) with hi0|hi0|hi0|hi0
          · have hti0:vtoN k=0:=by rw[hti,hi0]
            have hg0:vc .gtr k 0=false:=by rw[qc,ku];((try simp only[nc] at *);omega)
            clear hsec hjn;cbv;rw[hz];cbv;rw[hti0];cbv;rw[hg0];cbv;rw[ek];refine⟨⟨hkR⟩,?_⟩
            refine Cv.fold ([19,20]++(List.range' 95 30)) 6 [5,3,4] (by exact Nat.le_refl _) (by exact Nat.le_of_ble_eq_true rfl) (by rfl) (by cbv) ?_
            intro js;exact⟨_,hgo,js,rfl⟩
          · have hti0:vtoN k=1:=by rw[hti,hi0]
            have hg0:vc .gtr k 0=true:=by rw[qc,kz];((try simp only[nc] at *);omega)
            have hF:PkF 1 3 10 4:=by unfold PkF;simp
            have hsec:=hsec 1 3 10 4 hF (by decide);have hjn:=hjn c3 1 3 10 4 hF;have hk':((1:Nat):Int)=k:=by rw[hk,hi0]
            try simp only[nc] at hjn
            rw[hk'] at hjn;have eT:vb .shl .i64 1 (vw .u64 10)=1024:=by rw[qb,qw];decide
            have nn:jf (vw .u64 10):=⟨by rw[qw];decide⟩;generalize qA K 1 N bn 10=JN at *;by_cases hN2:N<1024
            · have hl1:vc .lss nI 1024=true:=by rw[qc,kf];((try simp only[nc] at *);omega)
              by_cases hb2:bn<1024
              · have hl2:vc .lss bnI 1024=true:=by rw[qc,kf];((try simp only[nc] at *);omega)
                have hs:=hsec (by exact hN2) (by exact hb2);obtain⟨X,hX⟩:∃X,X=leB ((JN:Nat):Int) 3++B:=⟨_,rfl⟩;have hXl:X.length=3+bn:=by rw[hX,List.length_append,kT,hBl]
                obtain⟨x3,hx3⟩:∃x,x=3+bn:=⟨_,rfl⟩;rw[←hx3] at hXl hjn;rw[←hX] at hs hjn;clear hsec hX hx3;cbv;rw[hz];cbv;rw[hti0];cbv;rw[hg0];cbv;rw[en,eT,hl1];cbv;rw[ebn,eT,hl2];cbv;rw[en];refine⟨⟨hkR⟩,nn,nn,?_⟩
                refine ka (ρ:=[(5,.z)]) hjn ⟨by rfl,by rfl,by rfl,by cbv;(repeat' first|(refine And.intro ?_ ?_)|exact trivial|exact⟨Nat.le_refl _⟩|exact kb _|exact fun _=>rfl|(simp only[renL3];done)|(show SB.roA _ _ _=SB.roA _ _ _;rfl)|exact funext fun _=>rfl)⟩ ?_
                rintro v H R js2 ⟨rfl,⟨hno,rfl,rfl⟩|⟨_,c',hc',rfl,rfl⟩⟩
                · exfalso;exact hno ⟨hN2,hb2⟩
                · clear hjn
                  cbv;subst hXl;exact⟨[0,1,2,7],.slice 3 .z 1 X.length c',[.ro .u8 lits,.ro .u8 w,.ro .u8 d,.buf 5 .u8 X c'],rfl,rfl,rfl,rfl,⟨rfl,rfl,rfl,rfl,trivial⟩,rfl,.inr ⟨X,c',hs,hc',rfl,rfl⟩⟩
              · have hl2:vc .lss bnI 1024=false:=by rw[qc,ke];((try simp only[nc] at *);omega)
                clear hsec hjn;cbv;rw[hz];cbv;rw[hti0];cbv;rw[hg0];cbv;rw[en,eT,hl1];cbv;rw[ebn,eT,hl2];cbv;rw[ek];refine⟨⟨hkR⟩,nn,nn,?_⟩
                refine Cv.fold ([19,20]++(List.range' 95 30)) 6 [5,3,4] (by exact Nat.le_refl _) (by exact Nat.le_of_ble_eq_true rfl) (by rfl) (by cbv) ?_
                intro js;exact⟨_,hgo,js,rfl⟩
            · have hl1:vc .lss nI 1024=false:=by rw[qc,ke];((try simp only[nc] at *);omega)
              clear hsec hjn;cbv;rw[hz];cbv;rw[hti0];cbv;rw[hg0];cbv;rw[en,eT,hl1];cbv;rw[ek];refine⟨⟨hkR⟩,nn,?_⟩
              refine Cv.fold ([19,20]++(List.range' 95 30)) 6 [5,3,4] (by exact Nat.le_refl _) (by exact Nat.le_of_ble_eq_true rfl) (by rfl) (by cbv) ?_
              intro js;exact⟨_,hgo,js,rfl⟩
          · have hti0:vtoN k=2:=by rw[hti,hi0]
            have hg0:vc .gtr k 0=true:=by rw[qc,kz];((try simp only[nc] at *);omega)
            have hF:PkF 2 4 14 4:=by unfold PkF;simp
            have hsec:=hsec 2 4 14 4 hF (by decide);have hjn:=hjn c3 2 4 14 4 hF;have hk':((2:Nat):Int)=k:=by rw[hk,hi0]
            try simp only[nc] at hjn
            rw[hk'] at hjn;have eT:vb .shl .i64 1 (vw .u64 14)=16384:=by rw[qb,qw];decide
            have nn:jf (vw .u64 14):=⟨by rw[qw];decide⟩;generalize qA K 2 N bn 14=JN at *;by_cases hN2:N<16384
            · have hl1:vc .lss nI 16384=true:=by rw[qc,kf];((try simp only[nc] at *);omega)
              by_cases hb2:bn<16384
              · have hl2:vc .lss bnI 16384=true:=by rw[qc,kf];((try simp only[nc] at *);omega)
                have hs:=hsec (by exact hN2) (by exact hb2);obtain⟨X,hX⟩:∃X,X=leB ((JN:Nat):Int) 4++B:=⟨_,rfl⟩;have hXl:X.length=4+bn:=by rw[hX,List.length_append,kT,hBl]
                obtain⟨x3,hx3⟩:∃x,x=4+bn:=⟨_,rfl⟩;rw[←hx3] at hXl hjn;rw[←hX] at hs hjn;clear hsec hX hx3;cbv;rw[hz];cbv;rw[hti0];cbv;rw[hg0];cbv;rw[en,eT,hl1];cbv;rw[ebn,eT,hl2];cbv;rw[en];refine⟨⟨hkR⟩,nn,nn,?_⟩
                refine ka (ρ:=[(5,.z)]) hjn ⟨by rfl,by rfl,by rfl,by cbv;(repeat' first|(refine And.intro ?_ ?_)|exact trivial|exact⟨Nat.le_refl _⟩|exact kb _|exact fun _=>rfl|(simp only[renL3];done)|(show SB.roA _ _ _=SB.roA _ _ _;rfl)|exact funext fun _=>rfl)⟩ ?_
                rintro v H R js2 ⟨rfl,⟨hno,rfl,rfl⟩|⟨_,c',hc',rfl,rfl⟩⟩
                · exfalso;exact hno ⟨hN2,hb2⟩
                · clear hjn
                  cbv;subst hXl;exact⟨[0,1,2,7],.slice 3 .z 1 X.length c',[.ro .u8 lits,.ro .u8 w,.ro .u8 d,.buf 5 .u8 X c'],rfl,rfl,rfl,rfl,⟨rfl,rfl,rfl,rfl,trivial⟩,rfl,.inr ⟨X,c',hs,hc',rfl,rfl⟩⟩
              · have hl2:vc .lss bnI 16384=false:=by rw[qc,ke];((try simp only[nc] at *);omega)
                clear hsec hjn;cbv;rw[hz];cbv;rw[hti0];cbv;rw[hg0];cbv;rw[en,eT,hl1];cbv;rw[ebn,eT,hl2];cbv;rw[ek];refine⟨⟨hkR⟩,nn,nn,?_⟩
                refine Cv.fold ([19,20]++(List.range' 95 30)) 6 [5,3,4] (by exact Nat.le_refl _) (by exact Nat.le_of_ble_eq_true rfl) (by rfl) (by cbv) ?_
                intro js;exact⟨_,hgo,js,rfl⟩
            · have hl1:vc .lss nI 16384=false:=by rw[qc,ke];((try simp only[nc] at *);omega)
              clear hsec hjn;cbv;rw[hz];cbv;rw[hti0];cbv;rw[hg0];cbv;rw[en,eT,hl1];cbv;rw[ek];refine⟨⟨hkR⟩,nn,?_⟩
              refine Cv.fold ([19,20]++(List.range' 95 30)) 6 [5,3,4] (by exact Nat.le_refl _) (by exact Nat.le_of_ble_eq_true rfl) (by rfl) (by cbv) ?_
              intro js;exact⟨_,hgo,js,rfl⟩
          · have hti0:vtoN k=3:=by rw[hti,hi0]
            have hg0:vc .gtr k 0=true:=by rw[qc,kz];((try simp only[nc] at *);omega)
            have hF:PkF 3 5 18 4:=by unfold PkF;simp
            have hsec:=hsec 3 5 18 4 hF (by decide);have hjn:=hjn c3 3 5 18 4 hF;have hk':((3:Nat):Int)=k:=by rw[hk,hi0]
            try simp only[nc] at hjn
            rw[hk'] at hjn;have eT:vb .shl .i64 1 (vw .u64 18)=262144:=by rw[qb,qw];decide
            have nn:jf (vw .u64 18):=⟨by rw[qw];decide⟩;generalize qA K 3 N bn 18=JN at *;by_cases hN2:N<262144
            · have hl1:vc .lss nI 262144=true:=by rw[qc,kf];((try simp only[nc] at *);omega)
              by_cases hb2:bn<262144
              · have hl2:vc .lss bnI 262144=true:=by rw[qc,kf];((try simp only[nc] at *);omega)
                have hs:=hsec (by exact hN2) (by exact hb2);obtain⟨X,hX⟩:∃X,X=leB ((JN:Nat):Int) 5++B:=⟨_,rfl⟩;have hXl:X.length=5+bn:=by rw[hX,List.length_append,kT,hBl]
                obtain⟨x3,hx3⟩:∃x,x=5+bn:=⟨_,rfl⟩;rw[←hx3] at hXl hjn;rw[←hX] at hs hjn;clear hsec hX hx3;cbv;rw[hz];cbv;rw[hti0];cbv;rw[hg0];cbv;rw[en,eT,hl1];cbv;rw[ebn,eT,hl2];cbv;rw[en];refine⟨⟨hkR⟩,nn,nn,?_⟩
                refine ka (ρ:=[(5,.z)]) hjn ⟨by rfl,by rfl,by rfl,by cbv;(repeat' first|(refine And.intro ?_ ?_)|exact trivial|exact⟨Nat.le_refl _⟩|exact kb _|exact fun _=>rfl|(simp only[renL3];done)|(show SB.roA _ _ _=SB.roA _ _ _;rfl)|exact funext fun _=>rfl)⟩ ?_
                rintro v H R js2 ⟨rfl,⟨hno,rfl,rfl⟩|⟨_,c',hc',rfl,rfl⟩⟩
                · exfalso;exact hno ⟨hN2,hb2⟩
                · clear hjn
                  cbv;subst hXl;exact⟨[0,1,2,7],.slice 3 .z 1 X.length c',[.ro .u8 lits,.ro .u8 w,.ro .u8 d,.buf 5 .u8 X c'],rfl,rfl,rfl,rfl,⟨rfl,rfl,rfl,rfl,trivial⟩,rfl,.inr ⟨X,c',hs,hc',rfl,rfl⟩⟩
              · have hl2:vc .lss bnI 262144=false:=by rw[qc,ke];((try simp only[nc] at *);omega)
                clear hsec hjn;cbv;rw[hz];cbv;rw[hti0];cbv;rw[hg0];cbv;rw[en,eT,hl1];cbv;rw[ebn,eT,hl2];cbv;rw[ek];refine⟨⟨hkR⟩,nn,nn,?_⟩
                refine Cv.fold ([19,20]++(List.range' 95 30)) 6 [5,3,4] (by exact Nat.le_refl _) (by exact Nat.le_of_ble_eq_true rfl) (by rfl) (by cbv) ?_
                intro js;exact⟨_,hgo,js,rfl⟩
            · have hl1:vc .lss nI 262144=false:=by rw[qc,ke];((try simp only[nc] at *);omega)
              clear hsec hjn;cbv;rw[hz];cbv;rw[hti0];cbv;rw[hg0];cbv;rw[en,eT,hl1];cbv;rw[ek];refine⟨⟨hkR⟩,nn,?_⟩
              refine Cv.fold ([19,20]++(List.range' 95 30)) 6 [5,3,4] (by exact Nat.le_refl _) (by exact Nat.le_of_ble_eq_true rfl) (by rfl) (by cbv) ?_
              intro js;exact⟨_,hgo,js,rfl⟩
    · have hi4:i<4:=by omega
      have hz:vc .lss k 4=true:=by rw[qc,kf];((try simp only[nc] at *);omega)
      obtain⟨k1,hk1⟩:∃k1:Int,k1=((i+1:Nat):Int):=⟨_,rfl⟩;have ek:vb .add .i64 k 1=k1:=by(try simp only[nc] at *);rw[qb,kh (by omega) (by omega)];omega
      have hmu:∀_:Unit,4-k1.toNat<4-k.toNat:=fun _=>by((try simp only[nc] at *);omega)
      obtain⟨p1,p2,p3,p4,p5⟩:=hpt i hi4;have heI':eI=(e:Int):=heI;have hk':k=(i:Int):=hk;obtain⟨lo,hlo⟩:∃x,x=i*e:=⟨_,rfl⟩;obtain⟨hi2,hhi⟩:∃x,x=min ((i+1)*e) N:=⟨_,rfl⟩;obtain⟨loI,hloI⟩:∃x:Int,x=lo:=⟨_,rfl⟩;obtain⟨hiI,hhiI⟩:∃x:Int,x=hi2:=⟨_,rfl⟩;have hie:(i+1)*e=i*e+e:=by rw[Nat.add_mul,Nat.one_mul]
      have hile:i*e≤3*40000:=Nat.mul_le_mul (by omega) he4.1;have em1:vb .mul .i64 k eI=loI:=by
        have e0:k*eI=((i*e:Nat):Int):=by rw[hk',heI'];push_cast;rfl
        rw[qb,qV (by rw[e0];omega) (by rw[e0];omega),e0,hloI,hlo]
      have em2:vb .mul .i64 k1 eI=((i*e+e:Nat):Int):=by
        have e0:k1*eI=((i*e+e:Nat):Int):=by rw[hk1,heI',←hie];push_cast;rfl
        rw[qb,qV (by rw[e0];omega) (by rw[e0];omega),e0]
      have em3:vminI ((i*e+e:Nat):Int) nI=hiI:=by
        rw[qminI,hhiI,hhi,hie];have:nI=(N:Int):=hnI;simp only[];split<;>omega
      have htl:vtoN loI=lo:=by rw[hloI];exact hto lo
      have hth:vtoN hiI=hi2:=by rw[hhiI];exact hto hi2
      rw[←hlo] at p1 p2 p4 p5;rw[←hhi] at p2 p3 p4 p5;obtain⟨pn,hpn⟩:∃x,x=hi2-lo:=⟨_,rfl⟩;rw[←hpn] at p4 p5;have hsb:vsubN hi2 lo=pn:=by rw[qsubN,hpn]
      have hvw:∀x,x=lo→kdP x (jM lits i) lits:=fun x hx=>by rw[p5];exact kdt (by rw[hNn];omega) (.inl hx)
      obtain⟨cp,hcp⟩:∃x,x=vsubN c0 lo:=⟨_,rfl⟩;have hcut:vcutN 0 lo c0=lo:=by
        rw[qcutN];simp only[];rw[if_neg (by omega),Nat.zero_add]
      have hpqi:=hpq i cp hi4;rw[p4] at hpqi;have hvl:=hvw lo rfl;have hrowi:=hrow i;rw[p4] at hrowi;have hstepi:=fun(M:Nat)=>@hstep i M hok
      rw[p4] at hstepi;have hrIi:=hrI i;have hszi:=hszs i;have hali:=hals i;have hloC:0≤loI∧loI≤(hi2:Int):=by omega
      have hhiC:0≤hiI∧hiI≤(c0:Int):=by omega
      have hpn4:pn≤40000:=by omega
      have hputs:=fun(X:Int) (hX:0≤X∧X<18446744073709551616)=>hput s sc X 2 (by have:=hszl i;rw[hs];omega) (by omega) hX (by decide)
      rw[←hsn] at hputs;have han3:∀x,x≤65535→an+x≤70000*(i+1):=fun x hx=>by omega
      have han4:∀x,x≤65535→an+x≤400000:=fun x hx=>by omega
      generalize jM lits i=PL at *;clear hpt hjn hsec hszl hpk hz0 hsz0 hal0 hpq hstep hput hrow hszs hals hrI hvw p1 p2 p3 p4 p5 hie hile he heI hlo hhi hpn;cbv;rw[hz];cbv;rw[em1,ek,em2,en,em3,htl,hth];refine⟨⟨hhiC⟩,⟨hloC⟩,?_⟩
      rw[hcut,hsb,←hcp];refine ka (ρ:=[(1,.z),(0,.n lo)]) hpqi ⟨by rfl,by rfl,by rfl,by cbv;exact⟨kb _,hvl,trivial⟩⟩ ?_
      rintro v H R js2 ⟨rfl,⟨e2,he2,rfl,rfl⟩|⟨M,cr,r,hW,hall,hr,rfl,rfl⟩⟩
      · have hne:vc .neq e2 0=true:=by rw[qc,jl];exact he2
        cbv;rw[hne];cbv;exact⟨[0,1,2],.val (.slice none 0 0),[.ro .u8 lits,.ro .u8 w,.ro .u8 d],rfl,rfl,rfl,rfl,⟨rfl,rfl,rfl,trivial⟩,rfl,.inl ⟨rfl,rfl⟩⟩
      · obtain⟨rn,hrn⟩:∃x,x=r.length:=⟨_,rfl⟩
        obtain⟨rI,hrnI⟩:∃x:Int,x=rn:=⟨_,rfl⟩;have er:vofN rn=rI:=by rw[qofN,hrnI]
        have hrR:=hrIi M hW;rw[←hr] at hrR;have hrl:=hrowi M hW;rw[←hr,←hrn] at hrl;rw[hrR,←hrn] at hszi;try simp only[nc] at hszi
        rw[←hrnI] at hszi;rw[hrR] at hali;have hst:=hstepi M hW hall;rw[←hr,←hrn] at hst;rw[←hrn];have hlr:vln r=rn:=by rw[qln,hrn]
        clear hpqi hrIi hrowi hstepi hW hall;cbv;rw[n00];cbv;rw[er];by_cases h16:rn<65536
        · have hge:vc .geq rI 65536=false:=by rw[qc,kO];((try simp only[nc] at *);omega)
          have hst:=hst h16;rw[hge];cbv;by_cases hi3:i<3
          · have hz3:vc .lss k 3=true:=by rw[qc,kf];((try simp only[nc] at *);omega)
            rw[hz3];cbv;rw[if_pos hi3,←hs] at hszi;rw[er];have hwr:vw .u64 rI=rI:=by rw[qw,hrnI];exact wrap_u64 (by((try simp only[nc] at *);omega)) (by((try simp only[nc] at *);omega))
            have hpi:=hputs rI ⟨by((try simp only[nc] at *);omega),by((try simp only[nc] at *);omega)⟩;rw[←hszi] at hpi;have hnr:=RI;have hali2:AL (i+1)=a++r:=by rw[hali,←ha]
            obtain⟨s2,hs2⟩:∃x,x=SZ (i+1):=⟨_,rfl⟩;obtain⟨a2,ha2⟩:∃x,x=AL (i+1):=⟨_,rfl⟩;rw[←hs2] at hszi hpi;rw[←ha2] at hali2;obtain⟨sn2,hsn2⟩:∃x,x=sn+2:=⟨_,rfl⟩;obtain⟨an2,han2'⟩:∃x,x=an+rn:=⟨_,rfl⟩;rw[←hsn2] at hpi;have hsl2:sn2=s2.length:=by rw[hszi,List.length_append,kT,←hsn,hsn2]
            have hal2:an2=a2.length:=by rw[hali2,List.length_append,←han,←hrn,han2']
            have hana:∀_:Unit,an2≤70000*(i+1):=fun _=>by rw[han2'];exact han3 rn (by omega)
            have hana2:an2≤400000:=by rw[han2'];exact han4 rn (by omega)
            have hla:vln a=an:=by rw[qln,han]
            have haa:vaddN an rn=an2:=by rw[qaddN,han2']
            have hont:vonto a an (vsub r 0 rn)=a2:=by
              have e1:a.take an=a:=by rw[han];exact List.take_length
              have e2:r.take rn=r:=by rw[hrn];exact List.take_length
              rw[qonto,qsub,hali2];simp[e1,e2]
            rw[hwr];clear hputs hrR hr hali hszi hali2 han3 han4;refine ka (ρ:=[(3,.z)]) hpi ⟨by rfl,by rfl,by rfl,by cbv;(repeat' first|(refine And.intro ?_ ?_)|exact trivial|exact⟨Nat.le_refl _⟩|exact kb _|exact fun _=>rfl|(simp only[renL3];done)|(show SB.roA _ _ _=SB.roA _ _ _;rfl)|exact funext fun _=>rfl)⟩ ?_
            rintro v H R js3 ⟨rfl,sc2,hsc2,rfl,rfl⟩;cbv;refine⟨⟨by rw[hadd0,hlr];exact Nat.le_refl _⟩,⟨by rw[hla];exact Nat.le_refl _⟩,⟨Nat.le_refl _⟩,⟨by rw[haa];((try simp only[nc] at *);omega)⟩,?_⟩
            intro ac2 jv hle;have hle':an2≤ac2:=by have:=hle.out;simp only at this;rw[haa] at this;exact this
            cbv;rw[hont,haa,ek];refine Cv.fold ([14,15,16,17,45,46]++(List.range' 48 38)) 5 [3,4] (by exact Nat.le_refl _) (by exact Nat.le_of_ble_eq_true rfl) (by rfl) (by cbv) ?_
            intro js;exact⟨(_,_,_,_,_,_,_),⟨⟨i+1,hk1,by omega,hs2,ha2,hsl2,hal2,hsc2,hle',hana (),hst⟩,hmu ()⟩,js,rfl⟩
          · have hz3:vc .lss k 3=false:=by rw[qc,ke];((try simp only[nc] at *);omega)
            rw[if_neg hi3,←hs] at hszi;have hali2:AL (i+1)=a++r:=by rw[hali,←ha]
            obtain⟨a2,ha2⟩:∃x,x=AL (i+1):=⟨_,rfl⟩;rw[←ha2] at hali2;obtain⟨an2,han2'⟩:∃x,x=an+rn:=⟨_,rfl⟩;have hal2:an2=a2.length:=by rw[hali2,List.length_append,←han,←hrn,han2']
            have hana:∀_:Unit,an2≤70000*(i+1):=fun _=>by rw[han2'];exact han3 rn (by omega)
            have hana2:an2≤400000:=by rw[han2'];exact han4 rn (by omega)
            have hla:vln a=an:=by rw[qln,han]
            have haa:vaddN an rn=an2:=by rw[qaddN,han2']
            have hont:vonto a an (vsub r 0 rn)=a2:=by
              have e1:a.take an=a:=by rw[han];exact List.take_length
              have e2:r.take rn=r:=by rw[hrn];exact List.take_length
              rw[qonto,qsub,hali2];simp[e1,e2]
            clear hputs hrR hr hali hali2 han3 han4;rw[hz3];cbv;refine⟨⟨by rw[hadd0,hlr];exact Nat.le_refl _⟩,⟨by rw[hla];exact Nat.le_refl _⟩,⟨Nat.le_refl _⟩,⟨by rw[haa];((try simp only[nc] at *);omega)⟩,?_⟩
            intro ac2 jv hle;have hle':an2≤ac2:=by have:=hle.out;simp only at this;rw[haa] at this;exact this
            cbv;rw[hont,haa,ek];refine Cv.fold ([14,15,16,17,45,46]++(List.range' 48 38)) 5 [3,4] (by exact Nat.le_refl _) (by exact Nat.le_of_ble_eq_true rfl) (by rfl) (by cbv) ?_
            intro js;exact⟨(_,_,_,_,_,_,_),⟨⟨i+1,hk1,by omega,hszi.symm,ha2,hsn,hal2,hsc,hle',hana (),hst⟩,hmu ()⟩,js,rfl⟩
        · have hge:vc .geq rI 65536=true:=by rw[qc,jb];((try simp only[nc] at *);omega)
          rw[hge];cbv;exact⟨[0,1,2],.val (.slice none 0 0),[.ro .u8 lits,.ro .u8 w,.ro .u8 d],rfl,rfl,rfl,rfl,⟨rfl,rfl,rfl,trivial⟩,rfl,.inl ⟨rfl,rfl⟩⟩
end Go.Proofs.Ytlclleihoampdaa
