import Derived.Test.YtlclleihoampdaaA1
import Derived.Test.YtlclleihoampdaaEC
import Derived.Test.YtlclleihoampdaaED
set_option linter.unusedVariables false
set_option linter.unusedSimpArgs false
namespace Go.Proofs.Ytlclleihoampdaa
open Go Go.Sx Go.Proofs
set_option maxRecDepth 10000 in
set_option maxHeartbeats 40000000 in
theorem ki5 (l:List Int) (log:Int) (cap:Nat) (hl:∀c∈l,jF c) (hlog : -9223372036854775808≤log∧log≤9223372036854775807) (hR:j6 l log) :
  Con Try.prog 66 [.slice 0 .z 1 l.length cap,.int .i64 log] [.ro .i16 l] (fun v H R=>R=[]∧v=.tup [.slice 1 .z 3 (2^log.toNat:Int).toNat (2^log.toNat:Int).toNat,.int .i64 0] ∧
   H=[.ro .i16 l,.arr 79 3 (2^log.toNat:Int).toNat (fun m=>[.int .u8 (qD l (2^log.toNat) m),.int .u8 (kbB l log (2^log.toNat) (2^log.toNat:Int).toNat m),.int .u16 (kbq l log (2^log.toNat) (2^log.toNat:Int).toNat m)])]):=by
 have hright:=kd6 l log cap hl hlog;rw[show decide (j6 l log)=true by simp[hR]] at hright;have hparts:=kck;have hlen:=kdh;have f75:=ksk;have f116:=krx;have f70:=krr;refine kj (kA 2 (by simp) (km (kg kr krn ?_)))
 intro vb vc vw vtoN vofN vaddN _ _ _ _ vgd vst vln vrep vsub vonto _ _ _ vnotB _ hw qb qc qw qtoN qofN qaddN _ _ _ _ qgd qst qln qrep qsub qonto _ _ _ qnotB _;have hm:=kr;generalize Try.prog=P at *;obtain⟨g1,g2,g3,g4,g5,g6,g7⟩:=hR;have hpl:=kaM ⟨g1,g2⟩;obtain⟨size,hsz,hszs⟩:=klc ⟨g1,g2⟩;rw[hsz] at hpl g7;rw[hsz];obtain⟨N,hN⟩:∃N:Nat,size=N:=⟨size.toNat,by omega⟩;have hNt:size.toNat=N:=by omega
 rw[hNt];generalize hn:l.length=n at *;have hto:∀i:Nat,vtoN (i:Int)=i:=fun i=>by simp only[qtoN,Int.toNat_natCast]
 have htoN:vtoN size=N:=by rw[qtoN];exact hNt
 have hadd0:∀i,vaddN 0 i=i:=fun i=>by simp only[qaddN,Nat.zero_add]
 have hvln:vln l=n:=by simp only[qln,hn]
 have hvgd:∀i,vgd l i=l.getD i 0:=fun i=>by simp only[qgd]
 have hmem:∀i,i<n→l.getD i 0∈l:=fun i hi=>by rw[List.getD_eq_getElem?_getD,List.getElem?_eq_getElem (by omega)];exact List.getElem_mem _
 have hsyd:qD l size=jy size (size-jT l n) (kaw l n) (kbp l size n) (size-jT l n).toNat:=by rw[←hn];rfl
 have hsyr:=kcO (l:=l) size (by omega);generalize hsyT:qD l size=syT at *;have hB0:kbB l log size 0=fun _=>0:=rfl
 have hC0:kbq l log size 0=fun _=>0:=rfl
 have hBs:=kmz l log size;have hCs:=kmA l log size;rw[hsyT] at hBs hCs;generalize kbB l log size=tB at *;generalize kbq l log size=tC at *;cbv;refine ka (ρ:=[(0,.z)]) hright ⟨by rfl,by rfl,by rfl,by cbv;exact⟨kb _,trivial⟩⟩ ?_
 rintro v H R js ⟨rfl,rfl,rfl⟩;have hnb:vnotB true=false:=by simp only[qnotB];rfl
 have e2:vw .u64 log=log:=by rw[qw];exact wrap_u64 (by omega) (by omega)
 have e3:vb .shl .i64 1 log=size:=by rw[qb,kdg (by omega) (by omega),hsz]
 cbv;rw[hnb];cbv;rw[e2,e3,htoN];refine⟨⟨by omega⟩,⟨by omega⟩,⟨by omega⟩,⟨by omega⟩,⟨by omega⟩,fun _=>rfl,fun _=>rfl,fun _=>rfl,?_⟩
 have hx16:∀i,i<n→jF (l.getD i 0):=fun i hi=>hl _ (hmem i hi)
 have hgx:∀i,i<n → -1≤l.getD i 0:=fun i hi=>g6 _ (hmem i hi)
 have hneg:=kax l;have hrl:=kbV l g6;have hsn:jG (l.take n)=size:=by rw[List.take_of_length_le (by omega)];exact g7
 have htk:=qx g6;have hv256:vrep 256 0=List.replicate 256 0:=by simp only[qrep]
 refine WX.cv (Cv.nilB 3 0 5 .u8 (by rfl) (by cbv;exact⟨fun _=>rfl,trivial⟩) (Cv.arrEq 1 (fun m=>[.int .u8 (kbp l size 0 m),.int .u8 0,.int .u16 0]) (by rfl) (by intro i;rfl) (Cv.here ?_)))
 generalize hs0:kbp l size 0=sy0;cbv;rw[hv256];generalize hxs0:List.replicate 256 (0:Int)=xs0;refine kl (α:=Int×Int×(Nat→Int)×List Int×List Int×Nat×Nat) ([11,12]++[31,32,33,34,35,36,37,38,39,40,41,42,43,44,45,46,47,48,49,50,51,52,53,54,55,56,57,58]) [5]
  (fun(k,high,sy,xs,row,rl,c)=>[(30,.int .i64 k),(8,.int .i64 high)])
  (fun(k,high,sy,xs,row,rl,c)=>[(1,.arr 79 3 N (fun m=>[.int .u8 (sy m),.int .u8 0,.int .u16 0])),(3,.one 25 [.slice 5 .z 1 rl c]),(4,.ints 176 .i64 xs),(5,.buf 5 .u8 row c)])
  (fun(k,high,sy,xs,row,rl,c)=>∃i:Nat,k=i∧i≤n∧high=size-jT l i∧sy=kbp l size i∧row=kaw l i∧rl=row.length∧xs.length=256∧∀s,xs.getD s 0=if s<i then kE (l.getD s 0) else 0)
  (fun(k,high,sy,xs,row,rl,c)=>n-k.toNat) hw hm ?_ ?_
 ·refine Cv.genAt [30] [] (Cv.fold ([11,12]++[31,32,33,34,35,36,37,38,39,40,41,42,43,44,45,46,47,48,49,50,51,52,53,54,55,56,57,58]) 6 [5] (by exact Nat.le_refl _) (by exact Nat.le_of_ble_eq_true rfl) (by rfl) (by cbv) ?_)
  intro js;refine⟨(_,_,_,_,_,_,_),?_,js,rfl⟩
  refine⟨0,rfl,by omega,by simp[jT],hs0.symm,rfl,rfl,by rw[←hxs0];simp,fun s=>?_⟩
  rw[←hxs0,if_neg (by omega),List.getD_eq_getElem?_getD,List.getElem?_replicate];split<;>rfl
 ·rintro ⟨k,high,sy,xs,row,rl,c⟩ js ⟨i,hk,hi,hhigh,hsy,hrow,hrl1,hxl,hxg⟩;cbv;split
  rotate_left
  ·rename_i hlt;have hin:i=n:=by rw[qc,ke] at hlt;simp only[qofN] at hlt;simp only[nc] at *;omega
   subst hin;cbv;refine⟨fun _=>rfl,?_⟩
   refine jk hw hm f75 (by rfl) ?_
   cbv;refine⟨fun _=>rfl,fun _=>rfl,?_⟩
   intro js1;cbv;refine kap (by rfl) (by rfl) (by cbv;exact⟨fun _=>rfl,trivial⟩) (by cbv;exact⟨fun _=>rfl,trivial⟩) (by rfl) ?_
   refine jk hw hm f116 (by rfl) ?_
   have hnegi:=hneg i;have hh0:0≤high:=by have:=hrl i (by omega);rw[hsn] at this;simp only[nc] at *;omega
   obtain⟨Hn,hHn⟩:∃Hn:Nat,high=Hn:=⟨high.toNat,by omega⟩;have hrowl:row.length=Hn:=by have:=hrl i (by omega);rw[hsn,←hrow] at this;simp only[nc] at *;omega
   have hsyd2:syT=jy size high row sy Hn:=by rw[hsyd,←hhigh,hrow,hsy,hHn];simp
   have hpos:=fun h=>kcP (size:=size) (high:=high) hszs h
   have hp0:kaf size high 0=0:=rfl;have hps:∀q,kaf size high (q+1)=qI size high 5000 (stepT size (kaf size high q)):=fun q=>rfl
   have hpl0:jy size high row sy 0=sy:=rfl;have hpls:∀q,jy size high row sy (q+1)=qC (jy size high row sy q) (kaf size high q).toNat (row.getD q 0):=fun q=>rfl
   have hstd:∀a,stepT size a=(a+size / 2+size / 8+3) % size:=fun a=>rfl
   have hsb:=fun a=>kav (size:=size) (by omega) a
   have hhit:=fun a h0 h1=>kqw (size:=size) hszs (a:=a) h0 h1
   have hsk1:=@kkp size high;have hsk2:=@kkq size high;generalize jy size high row sy=PL at *;generalize kaf size high=PO at *;generalize stepT size=ST at *;generalize qI size high=SK at *;have hNle:N≤4096:=by simp only[nc] at *;omega
   clear hparts hright hrl htk hneg;cbv;refine kl (α:=Int×Int×Int×(Nat→Int)) [7,8,9,10,11,12,13,14,15,16,17,18,19,20,21,22,23,24,25,26,27,28,29,30,31,32,33,34,35,36,37] [5]
    (fun(cnt,a,ix,sy2)=>[(6,.int .i64 cnt),(4,.int .i64 a)])
    (fun(cnt,a,ix,sy2)=>[(1,.arr 79 3 N (fun m=>[.int .u8 (sy2 m),.int .u8 0,.int .u16 0])),(6,.one 3 [.int .i64 ix])])
    (fun(cnt,a,ix,sy2)=>∃q:Nat,cnt=q∧q≤Hn∧ix=q∧a=PO q∧sy2=PL q)
    (fun(cnt,a,ix,sy2)=>Hn-cnt.toNat) hw hm ?_ ?_
   ·refine Cv.genAt [6,4] [6] (Cv.fold [7,8,9,10,11,12,13,14,15,16,17,18,19,20,21,22,23,24,25,26,27,28,29,30,31,32,33,34,35,36,37] 11 [5] (by exact Nat.le_refl _) (by exact Nat.le_of_ble_eq_true rfl) (by rfl) (by cbv) ?_)
    intro js;refine⟨(_,_,_,_),?_,js,rfl⟩
    exact⟨0,rfl,by omega,rfl,hp0.symm,hpl0.symm⟩
   ·rintro⟨cnt,a,ix,sy2⟩ js ⟨q,hcnt,hqH,hix,ha,hsy2⟩;cbv;split
    rotate_left
    ·rename_i hlt2;have hqe:q=Hn:=by rw[qc,ke] at hlt2;simp only[nc] at *;omega
     have hsyE:sy2=syT:=by rw[hsy2,hqe,hsyd2]
     subst hsyE;cbv;intro js2;cbv;have hNI:vofN N=size:=by simp only[qofN];exact hN.symm
     have hpsum:=fun s=>kcz g6 s
     rw[g7] at hpsum;have hcr:=kbr sy2;have hcs:∀s q,jD sy2 s (q+1)=jD sy2 s q+(if sy2 q=s then 1 else 0):=fun _ _=>rfl
     have hc0:∀s,jD sy2 s 0=0:=fun _=>rfl
     have hxd:∀q,xT l sy2 q=kE (l.getD (sy2 q).toNat 0)+jD sy2 (sy2 q) q:=fun _=>rfl
     generalize xT l sy2=XT at *;have hbd:∀x,bT log x=IntKind.u8.wrap (log+1-kK x):=fun _=>rfl
     have hcd:∀x,kgV log size x=IntKind.u16.wrap (bV .sub .i64 (bV .shl .i64 x (IntKind.u64.wrap (log+1-kK x))) size):=fun _=>rfl
     generalize bT log=bTf at *;generalize kgV log size=bAf at *;rw[hNI];clear hps hpls hpos hhit hsk1 hsk2 hsb hstd;refine WX.cv (Cv.arrEq 1 (fun m=>[.int .u8 (sy2 m),.int .u8 (tB 0 m),.int .u16 (tC 0 m)]) (by rfl) (by intro i;rw[hB0,hC0]) (Cv.here ?_))
     cbv;refine kl (α:=Int×(Nat→Int)×(Nat→Int)×List Int) ([15,16,17]++[76,77,78,79,80,81,82,83,84,85,86,87,88,89,90,91,92,93,94,95,96,97,98,99,100,101,102,103,104,105,106,107,108,109,110,111,112,113,114,115,116,117,118,119,120]) [5]
      (fun(k,b,s,xs)=>[(75,.int .i64 k)])
      (fun(k,b,s,xs)=>[(1,.arr 79 3 N (fun m=>[.int .u8 (sy2 m),.int .u8 (b m),.int .u16 (s m)])),(4,.ints 176 .i64 xs)])
      (fun(k,b,s,xs)=>∃q:Nat,k=q∧q≤N∧b=tB q∧s=tC q∧xs.length=256∧∀s,xs.getD s 0=kE (l.getD s 0)+jD sy2 s q)
      (fun(k,b,s,xs)=>N-k.toNat) hw hm ?_ ?_
     ·refine Cv.genAt [75] [] (Cv.fold ([15,16,17]++[76,77,78,79,80,81,82,83,84,85,86,87,88,89,90,91,92,93,94,95,96,97,98,99,100,101,102,103,104,105,106,107,108,109,110,111,112,113,114,115,116,117,118,119,120]) 11 [5] (by exact Nat.le_refl _) (by exact Nat.le_of_ble_eq_true rfl) (by rfl) (by cbv) ?_)
      intro js;refine⟨(_,_,_,_),?_,js,rfl⟩
      refine⟨0,rfl,by omega,rfl,rfl,hxl,fun s=>?_⟩
      rw[hxg,hc0];by_cases h:s<i
      ·rw[if_pos h];omega
      ·rw[if_neg h,List.getD_eq_getElem?_getD,List.getElem?_eq_none (by omega)];have:kE ((none:Option Int).getD 0)=0:=by decide
       omega
     ·rintro⟨k3,b3,s3,xs3⟩ js ⟨q3,hk3,hq3,hb3,hs3,hxl3,hxg3⟩;cbv;split
      rotate_left
      ·rename_i hlt3;have hqe3:q3=N:=by rw[qc,ke] at hlt3;simp only[nc] at *;omega
       subst hqe3;subst hb3 hs3;cbv
      ·rename_i hlt3;have hqe3:q3<N:=by rw[qc,kf] at hlt3;simp only[nc] at *;omega
       have ht3:vtoN k3=q3:=by rw[hk3];exact hto q3
       have hin3:0≤k3∧k3<(N:Int):=by simp only[nc] at *;omega
       obtain⟨hsr0,hsr1⟩:=hsyr q3;have htsy:vtoN (sy2 q3)=(sy2 q3).toNat:=by simp only[qtoN]
       have hin4:0≤sy2 q3∧sy2 q3<((256:Nat):Int):=by simp only[nc] at *;omega
       have hln3:vln xs3=256:=by rw[qln];exact hxl3
       have hgx3:vgd xs3 (sy2 q3).toNat=XT q3:=by rw[qgd,hxd];show xs3.getD _ 0=_;have hcast:((sy2 q3).toNat:Int)=sy2 q3:=Int.toNat_of_nonneg hsr0;rw[hxg3];simp only[nc];rw[hcast]
       have hxr0:=hpsum (sy2 q3).toNat;have hxr1:=hcr (sy2 q3) q3;have hxq:=hxd q3;generalize hxv:XT q3=xv at *;have hxv0:0≤xv∧xv≤8192:=by simp only[nc] at *;omega
       have exw:vw .u64 xv=xv:=by rw[qw];exact wrap_u64 (by omega) (by omega)
       have hlx:=hlen xv (by omega);have hbl:=ke2 (x:=xv) (by omega) (by omega);have hbv:=hbd xv;have hcv:=hcd xv;generalize kK xv=bl at *;have enn:vb .sub .i64 (vb .add .i64 log 1) bl=log+1-bl:=by
        have e:vb .add .i64 log 1=log+1:=by rw[qb,kh (by omega) (by omega)]
        rw[e,qb,ky (by omega) (by omega)]
       generalize hnnv:log+1-bl=nn at *;have hnn0:0≤vw .u64 nn:=by
        rw[qw];simp only[IntKind.wrap,IntKind.bits,IntKind.signed];simp
        omega
       have eB:vw .u8 nn=bTf xv:=by rw[hbv,qw]
       have eC:vw .u16 (vb .sub .i64 (vb .shl .i64 xv (vw .u64 nn)) size)=bAf xv:=by rw[hcv,qw,qb]
       have hBq:=hBs q3;have hCq:=hCs q3;rw[hxv,←hb3] at hBq;rw[hxv,←hs3] at hCq;have ex1:vb .add .i64 xv 1=xv+1:=by rw[qb,kh (by omega) (by omega)]
       obtain⟨k4,hk4⟩:∃k4:Int,k4=((q3+1:Nat):Int):=⟨_,rfl⟩;have ek4:vb .add .i64 k3 1=k4:=by simp only[nc] at *;rw[qb,kh (by omega) (by omega)];omega
       obtain⟨xs4,hxs4⟩:∃xs4,xs4=xs3.set (sy2 q3).toNat (xv+1):=⟨_,rfl⟩;have evs:vst xs3 (sy2 q3).toNat (xv+1)=xs4:=by rw[qst,hxs4]
       have hxl4:xs4.length=256:=by rw[hxs4,List.length_set];exact hxl3
       have hxg4:∀s,xs4.getD s 0=kE (l.getD s 0)+jD sy2 s (q3+1):=by
        intro s;rw[hcs,hxs4,List.getD_eq_getElem?_getD,List.getElem?_set,hxl3];by_cases h:(sy2 q3).toNat=s
        ·have hsy:sy2 q3=s:=by simp only[nc] at *;omega
         rw[if_pos h,if_pos (by simp only[nc] at *;omega),if_pos hsy,←hsy];show xv+1=_
         rw[hxq,hsy];simp only[Int.toNat_natCast];omega
        ·rw[if_neg h,if_neg (by simp only[nc] at *;omega),←List.getD_eq_getElem?_getD,hxg3];simp only[nc];omega
       generalize hsq:sy2 q3=sq at *;generalize hsqn:sq.toNat=sqn at *;generalize hb4:tB (q3+1)=b4 at *;generalize hs4:tC (q3+1)=s4 at *;generalize bTf xv=bx at *;generalize bAf xv=ax at *;generalize xv+1=xv1 at *;cbv;rw[ht3,hsq,htsy,hgx3,exw];refine⟨⟨hin3⟩,⟨hqe3⟩,⟨hin4⟩,⟨by simp only[nc] at *;omega⟩,?_⟩
       refine ka (ρ:=[]) hlx ⟨by rfl,by rfl,by rfl,by cbv;exact⟨fun _=>rfl,trivial⟩⟩ ?_
       rintro v H R js5 ⟨rfl,rfl,rfl⟩;cbv;rw[hsq,htsy,hgx3,enn,eB,eC,ex1,evs,knk,knl,hBq,hCq,ek4];refine⟨fun _=>rfl,⟨hqe3⟩,⟨hin4⟩,⟨by simp only[nc] at *;omega⟩,⟨hnn0⟩,⟨hqe3⟩,⟨⟨by simp only[nc] at *;omega⟩,trivial⟩,⟨hqe3⟩,⟨hqe3⟩,⟨hin4⟩,⟨by simp only[nc] at *;omega⟩,⟨hin4⟩,⟨by simp only[nc] at *;omega⟩,?_⟩
       refine Cv.fold ([15,16,17]++[76,77,78,79,80,81,82,83,84,85,86,87,88,89,90,91,92,93,94,95,96,97,98,99,100,101,102,103,104,105,106,107,108,109,110,111,112,113,114,115,116,117,118,119,120]) 11 [5] (by exact Nat.le_refl _) (by exact Nat.le_of_ble_eq_true rfl) (by rfl) (by cbv) ?_
       intro js;refine⟨(_,_,_,_),?_,js,rfl⟩
       refine⟨⟨q3+1,hk4,by omega,hb4.symm,hs4.symm,hxl4,hxg4⟩,?_⟩
       show N-k4.toNat<N-k3.toNat
       simp only[nc] at *;omega
    ·rename_i hlt2;have hqe:q<Hn:=by rw[qc,kf] at hlt2;simp only[nc] at *;omega
     have hpq:=hpos (by simp only[nc] at *;omega) q;have hpq1:=hpos (by simp only[nc] at *;omega) (q+1);obtain⟨hst0,hst1⟩:=hsb (PO q);obtain⟨mm,hmm,hmm0⟩:=hhit _ hst0 hst1;have hgrow:vgd row q=row.getD q 0:=by simp only[qgd]
     have hlr:vln row=Hn:=by simp only[qln,hrowl]
     have htq:vtoN ix=q:=by rw[hix];exact hto q
     have hta:vtoN a=(PO q).toNat:=by rw[ha,qtoN]
     have hin1:0≤ix∧ix<(rl:Int):=by simp only[nc] at *;omega
     have hin2:0≤a∧a<(N:Int):=by simp only[nc] at *;omega
     have hinN:(PO q).toNat<N:=by simp only[nc] at *;omega
     obtain⟨q1,hq1⟩:∃q1:Int,q1=((q+1:Nat):Int):=⟨_,rfl⟩;have ei:vb .add .i64 ix 1=q1:=by simp only[nc] at *;rw[qb,kh (by omega) (by omega)];omega
     have ec:vb .add .i64 cnt 1=q1:=by simp only[nc] at *;rw[qb,kh (by omega) (by omega)];omega
     have eS:∀x,0≤x→x<size→vb .rem .i64 (vb .add .i64 (vb .add .i64 (vb .add .i64 x (vb .quo .i64 size 2)) (vb .quo .i64 size 8)) 3) size=ST x:=by
      intro x h0 h1;have e1:vb .quo .i64 size 2=size / 2:=by rw[qb,j3 (by omega) (by omega) (by omega)]
      have e2:vb .quo .i64 size 8=size / 8:=by rw[qb,j3 (by omega) (by omega) (by omega)]
      have e3:vb .add .i64 x (size / 2)=x+size / 2:=by rw[qb,kh (by omega) (by omega)]
      have e4:vb .add .i64 (x+size / 2) (size / 8)=x+size / 2+size / 8:=by rw[qb,kh (by omega) (by omega)]
      have e5:vb .add .i64 (x+size / 2+size / 8) 3=x+size / 2+size / 8+3:=by rw[qb,kh (by omega) (by omega)]
      rw[e1,e2,hstd,e3,e4,e5,qb,kdd (by omega)]
     have eSa:=eS a (by omega) (by omega);cbv;refine kaq hw hm (by rfl) ?_
     cbv;rw[htq,hadd0,hta];refine⟨⟨hin1⟩,⟨by omega⟩,⟨by omega⟩,⟨hin2⟩,⟨hinN⟩,?_⟩
     intro js2;rw[hgrow,khU,ei];have hPLq:qC sy2 (PO q).toNat (row.getD q 0)=PL (q+1):=by rw[hpls,hsy2]
     rw[hPLq];generalize hsy3:PL (q+1)=sy3 at *;have hnb2:vnotB true=false:=hnb;cbv;rw[hnb2];cbv;rw[eSa];generalize hSTa:ST a=sta at *;refine⟨⟨by omega⟩,?_⟩
     refine kl (α:=Nat×Int) [22,23,24,25,26,27,28,29,30,31,32,33,34,35,36] [5] (fun(nn,a)=>[(4,.int .i64 a)]) (fun _=>[])
      (fun(nn,a)=>∃m,SK nn a=PO (q+1)∧kau size m a=0∧m≤nn∧0≤a∧a<size) (fun(nn,a)=>nn) hw hm ?_ ?_
     ·refine Cv.fold [22,23,24,25,26,27,28,29,30,31,32,33,34,35,36] 11 [5] (by exact Nat.le_refl _) (by exact Nat.le_of_ble_eq_true rfl) (by rfl) (by cbv) ?_
      intro js;refine⟨(5000,_),?_,js,rfl⟩
      rw[←ha,hSTa] at hst0 hst1 hmm0;exact⟨mm,by rw[hps,←ha,hSTa],hmm0,by omega,hst0,hst1⟩
     ·rintro⟨nn,a2⟩ js ⟨m2,hSK,hit,hm2,ha0,ha1⟩;have eS2:=eS a2 ha0 ha1;cbv;split
      rotate_left
      ·rename_i hge;rw[qc,kO] at hge;have hh1:SK nn a2=a2:=hsk2 (by omega);cbv;rw[ec];refine Cv.fold [7,8,9,10,11,12,13,14,15,16,17,18,19,20,21,22,23,24,25,26,27,28,29,30,31,32,33,34,35,36,37] 11 [5] (by exact Nat.le_refl _) (by exact Nat.le_of_ble_eq_true rfl) (by rfl) (by cbv) ?_
       intro js;refine⟨(_,_,_,_),?_,js,rfl⟩
       refine⟨⟨q+1,hq1,by omega,hq1,by rw[←hSK,hh1],hsy3.symm⟩,?_⟩
       show Hn-q1.toNat<Hn-cnt.toNat
       simp only[nc] at *;omega
      ·rename_i hge;rw[qc,jb] at hge;obtain⟨n3,m3,hn3,hm3,hsk,hit3⟩:=hsk1 (a:=a2) (n:=nn) (m:=m2) (by simp only[nc] at *;omega) (by omega) hit hm2;obtain⟨hsb2,hsb3⟩:=hsb a2;cbv;generalize hhz:vc .eql high 0=hz;have hhz2:hz=false:=by
        cases hz with
        |false=>rfl
        |true=>rw[qc,kF] at hhz;simp only[nc] at *;omega
       rw[hhz2];cbv;rw[eS2];refine⟨⟨by omega⟩,?_⟩
       refine Cv.fold [22,23,24,25,26,27,28,29,30,31,32,33,34,35,36] 11 [5] (by exact Nat.le_refl _) (by exact Nat.le_of_ble_eq_true rfl) (by rfl) (by cbv) ?_
       intro js;refine⟨(n3,_),?_,js,rfl⟩
       refine⟨⟨m3,by rw[←hsk];exact hSK,hit3,by omega,hsb2,hsb3⟩,?_⟩
       show n3<nn
       omega
  ·rename_i hlt;have hlt:i<n:=by rw[qc,kf] at hlt;simp only[qofN] at hlt;simp only[nc] at *;omega
   have hti:vtoN k=i:=by rw[hk];exact hto i
   have hinR:0≤k∧k<(n:Int):=by simp only[nc] at *;omega
   have hin256:0≤k∧k<((256:Nat):Int):=by simp only[nc] at *;omega
   have hln:vln xs=256:=by rw[qln];exact hxl
   have h16:=hx16 i hlt;have hpc:=hparts _ h16;have hgi:=hgx i hlt;have hlti:i<256:=by omega
   have ew:vw .u8 k=k:=by rw[qw];simp only[nc] at *;exact wrap_u8 (by omega) (by omega)
   have ek:vb .add .i64 k 1=((i+1:Nat):Int):=by simp only[nc] at *;rw[qb,kh (by omega) (by omega)];omega
   have hmu:n-((i+1:Nat):Int).toNat<n-k.toNat:=by rw[hk];simp only[nc] at *;omega
   have hn1:=hneg (i+1);have hn0:=hneg i;have hnd:jT l (i+1)=jT l i+(if l.getD i 0<0 then 1 else 0):=rfl;have hsd:kbp l size (i+1)=(if l.getD i 0<0 then qC (kbp l size i) (size-jT l (i+1)).toNat i else kbp l size i):=rfl;have hrd:kaw l (i+1)=kaw l i++List.replicate (l.getD i 0).toNat (i:Int):=rfl;have hxg2:∀v,(∀s,(xs.set i v).getD s 0=if s=i then v else xs.getD s 0):=by
    intro v s;rw[List.getD_eq_getElem?_getD,List.getElem?_set,hxl,List.getD_eq_getElem?_getD];by_cases h:i=s
    ·subst h;simp[hlti]
    ·rw[if_neg h,if_neg (fun e=>h e.symm)]
   have hxgn:∀s,(xs.set i (kE (l.getD i 0))).getD s 0=if s<i+1 then kE (l.getD s 0) else 0:=by
    intro s;rw[hxg2,hxg];by_cases h:s=i
    ·subst h;rw[if_pos rfl,if_pos (by omega)]
    ·rw[if_neg h];by_cases h2:s<i
     ·rw[if_pos h2,if_pos (by omega)]
     ·rw[if_neg h2,if_neg (by omega)]
   have hvst:∀v,vst xs i v=xs.set i v:=fun v=>by rw[qst]
   have hrowl:=hrl i (by omega);have hrowl1:=hrl (i+1) (by omega);have htki:=htk (i+1);have htk0:=htk i;clear hrl htk hright hlen;cbv;rw[hti,hadd0,hvgd];generalize hci:l.getD i 0=ci at *;generalize hpp:kE ci=pc at *;refine⟨⟨hinR⟩,⟨by omega⟩,⟨by omega⟩,?_⟩
   refine ka (ρ:=[]) hpc ⟨by rfl,by rfl,by rfl,by cbv;exact⟨fun _=>rfl,trivial⟩⟩ ?_
   rintro v H R js2 ⟨rfl,rfl,rfl⟩;cbv;rw[hti,hvst];have hx2l:(xs.set i pc).length=256:=by rw[List.length_set];exact hxl
   generalize hxs2:xs.set i pc=xs2 at *;generalize hz:vc .lss ci 0=z;cases z
   rotate_left
   ·rw[qc,kf] at hz;rw[if_pos hz] at hnd hsd;have eh:vb .sub .i64 high 1=size-jT l (i+1):=by rw[qb,ky (by omega) (by omega)];omega
    have ht0:vtoN (size-jT l (i+1))=(size-jT l (i+1)).toNat:=by simp only[qtoN]
    generalize hh2:size-jT l (i+1)=high2 at *;generalize hk2:((i+1:Nat):Int)=k2 at *;generalize hh2n:high2.toNat=h2n at *;cbv;rw[eh,ht0,ew,khU,ek];generalize hsy2:qC sy h2n k=sy2 at *;refine⟨fun _=>rfl,⟨hin256⟩,⟨by omega⟩,⟨by simp only[nc] at *;omega⟩,⟨by simp only[nc] at *;omega⟩,?_⟩
    refine Cv.fold ([11,12]++[31,32,33,34,35,36,37,38,39,40,41,42,43,44,45,46,47,48,49,50,51,52,53,54,55,56,57,58]) 6 [5] (by exact Nat.le_refl _) (by exact Nat.le_of_ble_eq_true rfl) (by rfl) (by cbv) ?_
    intro js;refine⟨(_,_,_,_,_,_,_),?_,js,rfl⟩
    refine⟨⟨i+1,by first|exact hk2.symm|rfl,hlt,hh2.symm,?_,?_,hrl1,hx2l,hxgn⟩,hmu⟩
    ·rw[hsd,←hsy2,hsy,hk];try rfl
    ·rw[hrd,hrow];have:ci.toNat=0:=by omega
     rw[this];simp
   ·rw [qc,ke] at hz
    rw[if_neg hz] at hnd hsd;obtain⟨q,hq⟩:∃q:Nat,ci=q:=⟨ci.toNat,by omega⟩;have hci15:ci≤32767:=h16.2;have hnr:row.length≤4096:=by rw[hrow];simp only[nc] at *;omega
    cbv;refine⟨fun _=>rfl,⟨hin256⟩,⟨by omega⟩,?_⟩
    refine kl (α:=Int×List Int×Nat×Nat) [51,52,53,54,55,56,57] [5]
     (fun(j,row,rl,c)=>[(50,.int .i16 j)])
     (fun(j,row,rl,c)=>[(3,.one 25 [.slice 5 .z 1 rl c]),(5,.buf 5 .u8 row c)])
     (fun(j,row,rl,c)=>∃p:Nat,j=p∧p≤q∧row=kaw l i++List.replicate p (i:Int)∧rl=row.length)
     (fun(j,row,rl,c)=>q-j.toNat) hw hm ?_ ?_
    ·refine Cv.genAt [50] [] (Cv.fold [51,52,53,54,55,56,57] 6 [5] (by exact Nat.le_refl _) (by exact Nat.le_of_ble_eq_true rfl) (by rfl) (by cbv) ?_)
     intro js;refine⟨(_,_,_,_),?_,js,rfl⟩
     exact⟨0,rfl,by omega,by simp[hrow],hrl1⟩
    ·rintro⟨j,row2,rl2,c2⟩ js ⟨p,hj,hpq,hrow2,hrl2⟩;have hl2:row2.length≤40000:=by
      rw[hrow2,List.length_append,List.length_replicate,←hrow];simp only[nc] at *;omega
     have hjw:vb .add .i16 j 1=((p+1:Nat):Int)∨p=q:=by
      by_cases h:p=q
      ·exact .inr h
      ·refine .inl ?_
       rw[qb];show IntKind.i16.wrap (j+1)=_
       simp only[nc] at *;simp[IntKind.wrap,IntKind.bits,IntKind.signed]
       omega
     cbv;split
     rotate_left
     ·rename_i hlt2;have hpe:p=q:=by rw[qc,ke] at hlt2;simp only[nc] at *;omega
      cbv;rw[ek];generalize hk2:((i+1:Nat):Int)=k2 at *;refine Cv.fold ([11,12]++[31,32,33,34,35,36,37,38,39,40,41,42,43,44,45,46,47,48,49,50,51,52,53,54,55,56,57,58]) 6 [5] (by exact Nat.le_refl _) (by exact Nat.le_of_ble_eq_true rfl) (by rfl) (by cbv) ?_
      intro js;refine⟨(_,_,_,_,_,_,_),?_,js,rfl⟩
      refine⟨⟨i+1,by first|exact hk2.symm|rfl,hlt,?_,?_,?_,hrl2,hx2l,hxgn⟩,hmu⟩
      ·rw[hhigh,hnd];omega
      ·rw[hsd,hsy]
      ·rw[hrd,hrow2,hpe,hq];rfl
     ·rename_i hlt2;have hpe:p<q:=by rw[qc,kf] at hlt2;simp only[nc] at *;omega
      have hjw:=hjw.resolve_right (by omega);have hsub:vsub [k] 0 1=[k]:=by simp only[qsub];rfl
      have honto:vonto row2 rl2 [k]=row2++[k]:=by rw[qonto,hrl2];simp
      have hlr:vln row2=rl2:=by simp only[qln,hrl2]
      have hl1:vln [k]=1:=by simp only[qln];rfl
      have ha1:vaddN rl2 1=rl2+1:=by simp only[qaddN]
      have ha01:vaddN 0 1=1:=by simp only[qaddN]
      have hl3:row2.length+1≤140737488355328:=by omega
      rw[←hrl2] at hl3;cbv;rw[ew];refine⟨fun _=>rfl,⟨by rw[ha01,hl1];exact Nat.le_refl _⟩,⟨by rw[hlr];exact Nat.le_refl _⟩,⟨Nat.le_refl _⟩,⟨by rw[ha1];omega⟩,fun _=>rfl,?_⟩
      intro c3 js3 hle3;cbv;rw[hsub,honto,hjw,ha1];generalize hrow3:row2++[k]=row3 at *;refine Cv.fold [51,52,53,54,55,56,57] 6 [5] (by exact Nat.le_refl _) (by exact Nat.le_of_ble_eq_true rfl) (by rfl) (by cbv) ?_
      intro js;refine⟨(_,_,_,_),?_,js,rfl⟩
      refine⟨⟨p+1,rfl,hpe,?_,?_⟩,?_⟩
      ·rw[←hrow3,hrow2,List.replicate_succ',List.append_assoc,hk];try rfl
      ·rw[←hrow3,List.length_append,hrl2];try rfl
      ·show q-((p+1:Nat):Int).toNat<q-j.toNat
       simp only[nc] at *;omega
def k7 (f:Nat→Int):Nat→Int
 |0=>0
 |n+1=>k7 f n+f n
theorem kay {f g:Nat→Int}:∀{n:Nat},(∀i,i<n→f i=g i)→k7 f n=k7 g n
 |0,_=>rfl
 |n+1,h=>by simp only[k7];rw[kay (fun i hi=>h i (by omega)),h n (by omega)]
theorem kdk {f:Nat→Int} {s:Nat} {v:Int}:∀{n:Nat},s<n→k7 (fun i=>if i=s then v else f i) n=k7 f n-f s+v
 |0,h=>by omega
 | n+1,h=>by
  simp only[k7];by_cases hs:s=n
  ·subst hs;rw[if_pos rfl,kay (g:=f) (fun i hi=>by rw[if_neg (by omega)])];omega
  ·rw[if_neg (by omega),kdk (by omega)];omega
theorem keE {f:Nat→Int}:∀{n:Nat},(∀i,i<n→0≤f i)→0≤k7 f n
 |0,_=>by simp[k7]
 |n+1,h=>by
  have:=keE (fun i hi=>h i (by omega):∀i,i<n→0≤f i);have:=h n (by omega);simp only[k7];omega
theorem kcm {f:Nat→Int} {m:Nat}:∀{n:Nat},(∀i,i<n→0≤f i)→m≤n→k7 f m≤k7 f n
 |0,_,h=>by
  have:m=0:=by omega
  subst this;exact Int.le_refl _
 | n+1,h,hm=>by
  by_cases hs:m=n+1
  ·subst hs;exact Int.le_refl _
  ·have:=kcm (n:=n) (m:=m) (fun i hi=>h i (by omega)) (by omega);have:=h n (by omega);simp only[k7];omega
theorem kdl {f:Nat→Int} {n s:Nat} (h:∀i,i<n→0≤f i) (hs:s<n):f s≤k7 f n:=by
 have h1:=kcm (m:=s+1) h (by omega);have h2:=keE (f:=f) (n:=s) (fun i hi=>h i (by omega));simp only[k7] at h1;omega
theorem kd7 (l:List Int):∀i,i≤l.length→jG (l.take i)=k7 (fun s=>kE (l.getD s 0)) i
 |0,_=>by simp[jG,k7]
 |i+1,h=>by
  rw[qQ (by omega),ka5,kd7 l i (by omega)];rfl
def kgm (l:List Int) (s:Nat):Int:=if l.getD s 0>0 then 1 else 0
def qZ (l:List Int):Nat→Int:=k7 (kgm l)
def ka6 (l:List Int):Nat→Int:=k7 (fun s=>l.getD s 0)
def q9 (l:List Int):Nat→Int
 |0=>0
 |i+1=>if l.getD i 0>0 then i else q9 l i
def khx (l:List Int) (log:Int):Prop:=l.length≤256∧5≤log∧log≤12∧1≤qZ l l.length∧qZ l l.length≤2^log.toNat
instance (l:List Int) (log:Int):Decidable (khx l log):=by unfold khx;infer_instance
theorem kfY (l:List Int):∀i,0≤qZ l i∧qZ l i≤i
 |0=>by simp[qZ,k7]
 |i+1=>by
  have:=kfY l i;simp only[qZ,k7] at *;unfold kgm at *
  split<;>(push_cast;omega)
theorem kbW (l:List Int):∀i,0≤q9 l i∧q9 l i≤i∧(1≤i→q9 l i<i)
 |0=>by simp[q9]
 |i+1=>by
  have:=kbW l i;simp only[q9];split
  ·omega
  ·refine⟨this.1,by omega,fun _=>by omega⟩
theorem kd8 (l:List Int):∀i,1≤qZ l i→0<l.getD (q9 l i).toNat 0
 |0,h=>by simp[qZ,k7] at h
 | i+1,h=>by
  simp only[q9];split
  ·rename_i hp;simpa using hp
  ·rename_i hp;refine kd8 l i ?_
   simp only[qZ,k7] at *;unfold kgm at h;rw[if_neg hp] at h;unfold kgm;omega
theorem keF (l:List Int) (hl:∀x∈l,0≤x):∀i s,s<i→q9 l i<s→l.getD s 0=0
 |0,s,h,_=>by omega
 | i+1,s,h,h2=>by
  have hs:0≤l.getD s 0:=by rcases jZ (l:=l) s with h|h;exact hl _ h;omega
  simp only[q9] at h2;split at h2
  ·omega
  ·rename_i hp;by_cases hsi:s=i
   ·subst hsi;omega
   ·exact keF l hl i s (by omega) h2
def kaN (l:List Int) (free all:Int) (s:Nat):Int:=if l.getD s 0=0 then 0 else l.getD s 0*free / all
def qi (l:List Int) (free all:Int) (s:Nat):Int:=if l.getD s 0=0 then 0 else 1+l.getD s 0*free / all
theorem khy {l:List Int} {free all:Int} (hl:∀x∈l,0≤x) (hf:0≤free) (ha:0<all):∀i,0≤k7 (kaN l free all) i∧all*k7 (kaN l free all) i≤free*ka6 l i
 |0=>by simp[k7,ka6]
 | i+1=>by
  have ih:=khy (free:=free) (all:=all) hl hf ha i;have hs:0≤l.getD i 0:=by rcases jZ (l:=l) i with h|h;exact hl _ h;omega
  simp only[ka6,k7] at *;have hm:0≤kaN l free all i∧all*kaN l free all i≤free*l.getD i 0:=by
   unfold kaN;split
   ·rename_i h;rw[h];simp
   ·have h0:0≤l.getD i 0*free:=Int.mul_nonneg hs hf;refine⟨Int.ediv_nonneg h0 (by omega),?_⟩
    rw[Int.mul_comm free];have:=Int.mul_ediv_self_le (x:=l.getD i 0*free) (k:=all) (by omega);exact this
  rw[Int.mul_add,Int.mul_add];omega
theorem kcA {l:List Int} (h:∀x∈l,0≤x) {m:Nat}:∀n,m≤n→(∀s,m≤s→s<n→l.getD s 0=0)→ka6 l n=ka6 l m
 |0,hm,_=>by
  have:m=0:=by omega
  subst this;rfl
 | n+1,hm,hz=>by
  by_cases hs:m=n+1
  ·subst hs;rfl
  ·have:=kcA h n (by omega) (fun s h1 h2=>hz s h1 (by omega));have h0:=hz n (by omega) (by omega);simp only[ka6,k7] at *;omega
theorem kcB {l:List Int} {m:Nat}:∀n,m≤n→(∀s,m≤s→s<n→l.getD s 0=0)→qZ l n=qZ l m
 |0,hm,_=>by
  have:m=0:=by omega
  subst this;rfl
 | n+1,hm,hz=>by
  by_cases hs:m=n+1
  ·subst hs;rfl
  ·have:=kcB (l:=l) n (by omega) (fun s h1 h2=>hz s h1 (by omega));have h0:=hz n (by omega) (by omega);simp only[qZ,k7] at *;unfold kgm at *
   rw[if_neg (by omega)];omega
def Fair (l c:List Int) (log:Int):Prop:=j6 c log∧c.length≤l.length∧(∀x∈c,jF x)∧∀s,s<l.length→(0<l.getD s 0↔(s<c.length∧c.getD s 0≠0))
theorem kpm {l out:List Int} {log free all left:Int} {best:Nat} (hl:∀x∈l,0≤x) (hab:khx l log) (hfree:free=2^log.toNat-qZ l l.length) (hall:all=ka6 l l.length)
  (hlen:out.length=(q9 l l.length).toNat+1) (hout:∀s,s<out.length→out.getD s 0=qi l free all s) (hleft:left=free-k7 (kaN l free all) out.length) (hb:best<out.length) (hbp:0<l.getD best 0) :
  0≤left∧left≤free∧out.getD best 0+left≤2^log.toNat∧(0≤out.getD best 0)∧Fair l (out.set best (out.getD best 0+left)) log:=by
 obtain⟨a1,a2,a3,a4,a5⟩:=hab;have hlr:=kbW l l.length;have hl1:1≤l.length:=by
  apply Classical.byContradiction
  intro h;have:l.length=0:=by omega
  rw[this] at a4;simp[qZ,k7] at a4
 have hlp:=kd8 l l.length a4;have hpl:=kaM ⟨a2,a3⟩;have htail:∀s,out.length≤s→s<l.length→l.getD s 0=0:=fun s h1 h2=>keF l hl l.length s h2 (by omega)
 have hsf:ka6 l out.length=all:=by rw[hall];exact(kcA hl l.length (by omega) htail).symm
 have hsn:qZ l out.length=qZ l l.length:=(kcB l.length (by omega) htail).symm;have hge:∀s,0≤l.getD s 0:=fun s=>by rcases jZ (l:=l) s with h|h;exact hl _ h;omega
 have hallp:0<all:=by
  have:=kdl (f:=fun s=>l.getD s 0) (n:=out.length) (s:=best) (fun i _=>hge i) hb;simp only[ka6] at hsf;omega
 have hf0:0≤free:=by omega
 have hml:=khy (free:=free) (all:=all) hl hf0 hallp out.length;rw[hsf] at hml;have hmle:k7 (kaN l free all) out.length≤free:=by
  apply Classical.byContradiction
  intro h;have:all*(free+1)≤all*k7 (kaN l free all) out.length:=Int.mul_le_mul_of_nonneg_left (by omega) (by omega);rw[Int.mul_add,Int.mul_comm all free] at this;omega
 have hsh:∀s,0≤qi l free all s∧(qi l free all s=0↔l.getD s 0=0)∧qi l free all s=kaN l free all s+kgm l s:=by
  intro s;unfold qi kaN kgm;split
  ·rename_i h;rw[h];simp
  ·rename_i h;have:=Int.ediv_nonneg (Int.mul_nonneg (hge s) hf0) (b:=all) (by omega);have:=hge s;refine⟨by omega,⟨fun h=>by omega,fun h2=>absurd h2 h⟩,?_⟩
   rw[if_pos (by omega)];omega
 have hsum:k7 (qi l free all) out.length=k7 (kaN l free all) out.length+qZ l out.length:=by
  have:∀n,k7 (qi l free all) n=k7 (kaN l free all) n+qZ l n:=by
   intro n;induction n with
   |zero=>simp[k7,qZ]
   |succ n ih=>
    have:=(hsh n).2.2;simp only[k7,qZ] at *;omega
  exact this _
 have hone:=kdl (f:=qi l free all) (n:=out.length) (s:=best) (fun i _=>(hsh i).1) hb;have hob:=hout best hb;have hlenset:(out.set best (out.getD best 0+left)).length=out.length:=List.length_set;have hget:∀s,s<out.length→(out.set best (out.getD best 0+left)).getD s 0=if s=best then qi l free all best+left else qi l free all s:=by
  intro s hs;rw[List.getD_eq_getElem?_getD,List.getElem?_set];by_cases h:best=s
  ·subst h;rw[if_pos rfl,if_pos hb,if_pos rfl,hob];rfl
  ·rw[if_neg h,if_neg (by omega),←List.getD_eq_getElem?_getD,hout s hs]
 have hne:∀s,s<out.length→0≤(out.set best (out.getD best 0+left)).getD s 0∧((out.set best (out.getD best 0+left)).getD s 0=0↔l.getD s 0=0):=by
  intro s hs;rw[hget s hs];have:=hsh s;split
  ·rename_i h;subst h
   have h2:qi l free all s≠0:=fun h=>by have:=(hsh s).2.1.1 h;omega
   exact⟨by omega,⟨fun h=>by omega,fun h=>by omega⟩⟩
  ·exact⟨this.1,this.2.1⟩
 generalize hcc:out.set best (out.getD best 0+left)=c at *;have hpart:∀x:Int,0≤x→kE x=x:=fun x h=>by unfold kE;rw[if_neg (by omega)]
 have hmemc:∀x∈c,∃s,s<out.length∧c.getD s 0=x:=by
  intro x hx;obtain⟨s,hs,rfl⟩:=List.mem_iff_getElem.1 hx;exact⟨s,by omega,by rw[List.getD_eq_getElem?_getD,List.getElem?_eq_getElem hs];rfl⟩
 have hsc:jG c=2^log.toNat:=by
  have h1:=kd7 c c.length (Nat.le_refl _);rw[List.take_length,hlenset] at h1;rw[h1,kay (g:=fun i=>if i=best then qi l free all best+left else qi l free all i) (fun i hi=>by rw[hpart _ (hne i hi).1,hget i hi]),kdk hb,hsum];omega
 have hle:∀s,s<out.length→c.getD s 0≤2^log.toNat:=by
  intro s hs;have h1:=kd7 c c.length (Nat.le_refl _);rw[List.take_length,hlenset,hsc] at h1;have:=kdl (f:=fun s=>kE (c.getD s 0)) (n:=out.length) (s:=s) (fun i hi=>by show 0≤kE _;rw[hpart _ (hne i hi).1];exact(hne i hi).1) hs;rw[←h1] at this;have e:kE (c.getD s 0)=c.getD s 0:=hpart _ (hne s hs).1;omega
 have hsb:=(hsh best).1;refine⟨by omega,by omega,by omega,by omega,⟨a2,a3,by omega,by omega,?_,?_,hsc⟩,by omega,?_,?_⟩
 ·rw[hlenset,hlen];have:=(hne (q9 l l.length).toNat (by omega)).2;simp only[Nat.add_sub_cancel];intro h;have:=this.1 h;omega
 ·intro x hx;obtain⟨s,hs,rfl⟩:=hmemc x hx;have:=(hne s hs).1;omega
 ·intro x hx;obtain⟨s,hs,rfl⟩:=hmemc x hx;have:=(hne s hs).1;have:=hle s hs;unfold jF;omega
 ·intro s hs;by_cases h:s<out.length
  ·have:=(hne s h).2;have:=hge s;constructor
   ·intro h2;exact⟨by omega,fun h3=>by omega⟩
   ·rintro⟨_,h2⟩;apply Classical.byContradiction
    intro h3;exact h2 (by omega)
  ·have:=htail s (by omega) hs;constructor
   ·intro h2;omega
   ·rintro⟨h2,_⟩;omega
set_option maxRecDepth 10000
set_option maxHeartbeats 40000000
theorem koo {x:Int} (h0:2≤x) (h:x≤4097):2≤kK x∧kK x≤13:=by
 have h1:=kbo (x:=x) (n:=13) (by omega) (by omega);obtain⟨k,h2,h3,h4⟩:=qn (x:=x) (by omega);refine⟨?_,by omega⟩
 apply Classical.byContradiction
 intro hc;have:k=0:=by omega
 subst this;omega
def zr:Nat→List Int
 |n+3=>kC 3 2++zr n
 |n=>kC n 2
theorem ki6 (v most:Int):∀b∈khw v most,jc b:=by
 unfold khw;split
 ·exact jw _ _
 ·split<;>exact jw _ _
theorem kdm:∀(l:List Int) (o:Option Nat) (left:Int),∀b∈wgo o l left,jc b
 |[],o,left,b,h=>by cases o<;>simp[wgo] at h
 | c::l,none,left,b,h=>by
  simp only[wgo] at h;split at h
  ·simp at h
  ·rcases List.mem_append.1 h with h|h
   ·exact ki6 _ _ b h
   ·exact kdm l _ _ b h
 | c :: l,some k,left,b,h=>by
  simp only[wgo] at h;split at h
  ·split at h
   ·rcases List.mem_append.1 h with h|h
    ·exact jw _ _ b h
    ·exact kdm l _ _ b h
   ·exact kdm l _ _ b h
  ·rcases List.mem_append.1 h with h|h
   ·exact jw _ _ b h
   ·split at h
    ·simp at h
    ·rcases List.mem_append.1 h with h|h
     ·exact ki6 _ _ b h
     ·exact kdm l _ _ b h
theorem kmB (l:List Int) (log:Int):∀b∈qp l log,jc b:=by
 intro b h;rcases List.mem_append.1 h with h|h
 ·exact jw _ _ b h
 ·exact kdm l _ _ b h
theorem kmC (l:List Int) (log:Int) (cap:Nat) (hl:∀c∈l,jF c) (hlog : -9223372036854775808≤log∧log≤9223372036854775807) (hR:¬j6 l log) :
  Con Try.prog 66 [.slice 0 .z 1 l.length cap,.int .i64 log] [.ro .i16 l] (fun v H R=>R=[]∧v=.tup [.val (.slice none 0 0),.int .i64 70]∧H=[.ro .i16 l]):=by
 have hright:=kd6 l log cap hl hlog;rw[show decide (j6 l log)=false by simp[hR]] at hright;refine kj (kg kr krn ?_)
 intro _ _ _ _ _ _ _ _ _ _ _ _ _ _ _ _ _ _ _ vnotB _ _ _ _ _ _ _ _ _ _ _ _ _ _ _ _ _ _ _ _ _ qnotB _;have hm:=kr;generalize Try.prog=P at *;have hnb:vnotB false=true:=by simp only[qnotB];rfl
 generalize l.length=n at *;cbv;refine ka (ρ:=[(0,.z)]) hright ⟨by rfl,by rfl,by rfl,by cbv;exact⟨kb _,trivial⟩⟩ ?_
 rintro v H R js ⟨rfl,rfl,rfl⟩;cbv;rw[hnb];cbv
def orb (size:Int) (j:Nat):Int:=(j*(size / 2+size / 8+3)) % size
abbrev kcQ (size:Int):Prop:=size=32∨size=64∨size=128∨size=256∨size=512∨size=1024∨size=2048∨size=4096
theorem ki7 {size:Int} (hs:kcQ size):∃inv:Int,(inv*(size / 2+size / 8+3)) % size=1:=by
 rcases hs with rfl|rfl|rfl|rfl|rfl|rfl|rfl|rfl
 ·exact⟨7,by decide⟩
 ·exact⟨3,by decide⟩
 ·exact⟨91,by decide⟩
 ·exact⟨11,by decide⟩
 ·exact⟨363,by decide⟩
 ·exact⟨43,by decide⟩
 ·exact⟨1451,by decide⟩
 ·exact⟨171,by decide⟩
theorem ke3 {size inv:Int} (hp:0<size) (hi:(inv*(size / 2+size / 8+3)) % size=1) (j:Nat) (h:(j:Int)<size):(orb size j*inv) % size=j:=by
 unfold orb;rw[Int.mul_emod,Int.emod_emod_of_dvd _ (Int.dvd_refl _),←Int.mul_emod,Int.mul_assoc,Int.mul_comm (size / 2+size / 8+3) inv,Int.mul_emod,hi,Int.mul_one,Int.emod_emod_of_dvd _ (Int.dvd_refl _)];exact Int.emod_eq_of_lt (by omega) h
theorem kop {size inv:Int} (hp:0<size) (hi:(inv*(size / 2+size / 8+3)) % size=1) {a:Int} (h0:0≤a) (h1:a<size):∃j:Nat,(j:Int)<size∧orb size j=a:=by
 refine⟨((a*inv) % size).toNat,?_,?_⟩
 ·have:=Int.emod_lt_of_pos (a*inv) hp;have:=Int.emod_nonneg (a*inv) (by omega:size≠0);omega
 ·unfold orb;rw[Int.toNat_of_nonneg (Int.emod_nonneg _ (by omega)),Int.mul_emod,Int.emod_emod_of_dvd _ (Int.dvd_refl _),←Int.mul_emod,Int.mul_assoc,Int.mul_emod,hi,Int.mul_one,Int.emod_emod_of_dvd _ (Int.dvd_refl _)];exact Int.emod_eq_of_lt h0 h1
theorem kdn {size:Int} (j:Nat):stepT size (orb size j)=orb size (j+1):=by
 unfold stepT orb;rw[Int.add_assoc,Int.add_assoc,Int.emod_add_emod];congr 1
 push_cast
 rw[Int.add_mul];omega
def kgn (size high:Int):Nat→Int:=k7 (fun j=>if orb size j<high then 1 else 0)
theorem kkr {n s:Nat} (h:s<n):k7 (fun i=>if i=s then 1 else 0) n=1:=by
 rw[kdk (f:=fun _=>0) h];have:∀n,k7 (fun _=>0) n=0:=by
  intro n;induction n with
  |zero=>rfl
  |succ n ih=>simp only[k7];omega
 rw[this];rfl
theorem koq {size:Int} (hs:kcQ size):∀(h:Nat),(h:Int)≤size→kgn size h size.toNat=h:=by
 obtain⟨inv,hi⟩:=ki7 hs;have hp:0<size:=by omega
 intro h;induction h with
 | zero=>
  intro _;unfold kgn;have:∀n,k7 (fun j=>if orb size j<((0:Nat):Int) then 1 else 0) n=0:=by
   intro n;induction n with
   |zero=>rfl
   |succ n ih=>
    have:=Int.emod_nonneg (n*(size / 2+size / 8+3)) (by omega:size≠0);simp only[k7];rw[ih,if_neg (by unfold orb;omega)];rfl
  rw[this];rfl
 | succ h ih=>
  intro hle;have ih:=ih (by omega);obtain⟨j0,hj0,hj1⟩:=kop hp hi (a:=h) (by omega) (by omega);have hsplit:∀n,k7 (fun j=>if orb size j<((h+1:Nat):Int) then 1 else 0) n=k7 (fun j=>if orb size j<(h:Int) then 1 else 0) n+k7 (fun j=>if orb size j=(h:Int) then 1 else 0) n:=by
   intro n;induction n with
   |zero=>rfl
   | succ n ih=>
    simp only[k7];rw[ih];by_cases h1:orb size n<(h:Int)
    ·rw[if_pos h1,if_pos (by omega),if_neg (by omega)];omega
    ·by_cases h2:orb size n=(h:Int)
     ·rw[if_neg h1,if_pos (by omega),if_pos h2];omega
     ·rw[if_neg h1,if_neg (by omega),if_neg h2];omega
  unfold kgn at *
  rw[hsplit,ih,kay (g:=fun j=>if j=j0 then 1 else 0) (fun j hj=>?_),kkr (by omega)]
  ·push_cast;rfl
  ·by_cases he:j=j0
   ·subst he;rw[if_pos hj1,if_pos rfl]
   ·rw[if_neg he,if_neg (fun e=>he ?_)];have h1:=ke3 hp hi j (by omega);have h2:=ke3 hp hi j0 hj0;rw[e] at h1;rw[hj1] at h2;omega
theorem ki8 {size high:Int}:∀(n m:Nat) (hm:∃d,d≤n∧orb size (m+d)<high),∃m',m≤m'∧qI size high n (orb size m)=orb size m'∧orb size m'<high∧kgn size high m'=kgn size high m
 |0,m,⟨d,hd,h⟩=>by
  have:d=0:=by omega
  subst this;exact⟨m,Nat.le_refl _,rfl,h,rfl⟩
 | n+1,m,⟨d,hd,h⟩=>by
  by_cases h0:orb size m<high
  ·exact⟨m,Nat.le_refl _,by simp only[qI];rw[if_pos h0],h0,rfl⟩
  ·have hd0:d≠0:=fun e=>by subst e;exact h0 h
   obtain⟨m',h1,h2,h3,h4⟩:=ki8 n (m+1) ⟨d-1,by omega,by rw[show m+1+(d-1)=m+d by omega];exact h⟩;refine⟨m',by omega,by simp only[qI];rw[if_neg h0,kdn];exact h2,h3,?_⟩
   rw[h4];unfold kgn;simp only[k7];rw[if_neg h0];omega
theorem ki9 {size:Int}:∀(n m:Nat),kau size n (orb size m)=orb size (m+n)
 |0,m=>rfl
 |n+1,m=>by rw[kau,kdn,ki9 n (m+1)];congr 1;omega
theorem khz {size high:Int} (hs:kcQ size) (hh:0<high):∀q,∃m,kaf size high q=orb size m∧orb size m<high∧kgn size high m=q
 |0=>⟨0,by simp[kaf,orb],by simp[orb];exact hh,rfl⟩
 |q+1=>by
  obtain⟨m,h1,h2,h3⟩:=khz hs hh q;have hsb:=kav (size:=size) (by omega) (kaf size high q);obtain⟨d,hd,hd0⟩:=kqw hs hsb.1 hsb.2;rw[h1,kdn,ki9] at hd0;obtain⟨m',h4,h5,h6,h7⟩:=ki8 (size:=size) (high:=high) 5000 (m+1) ⟨d,by omega,by omega⟩;refine⟨m',by simp only[kaf,kon];rw[h1,kdn];exact h5,h6,?_⟩
  rw[h7];unfold kgn at *
  simp only[k7];rw[if_pos h2,h3];push_cast;rfl
theorem kpn {size:Int} {h:Nat} (hs:kcQ size) (hle:(h:Int)≤size) {p q:Nat} (hp:p<h) (hq:q<h) (he:kaf size h p=kaf size h q):p=q:=by
 obtain⟨inv,hi⟩:=ki7 hs;obtain⟨m,a1,a2,a3⟩:=khz hs (by omega:(0:Int)<h) p;obtain⟨n,b1,b2,b3⟩:=khz hs (by omega:(0:Int)<h) q;have hall:=koq hs h hle;have hlt:∀m k:Nat,k<h→kgn size h m=k→(m:Int)<size:=by
  intro m k hk hm;apply Classical.byContradiction
  intro hc;have:=kcm (f:=fun j=>if orb size j<(h:Int) then 1 else 0) (m:=size.toNat) (n:=m) (fun i _=>by split<;>omega) (by omega);unfold kgn at hall hm;omega
 have h1:=ke3 (by omega) hi m (hlt m p hp a3);have h2:=ke3 (by omega) hi n (hlt n q hq b3);rw[←a1,he,b1] at h1;have:(m:Int)=n:=by rw[←h1,←h2]
 have:m=n:=by omega
 subst this;omega
theorem kdo {f:Nat→Int} {p:Nat} {v s:Int}:∀{N:Nat},p<N→jD (qC f p v) s N=jD f s N-(if f p=s then 1 else 0)+(if v=s then 1 else 0):=by
 have e:∀(g:Nat→Int) N,jD g s N=k7 (fun k=>if g k=s then 1 else 0) N:=by
  intro g N;induction N with
  |zero=>rfl
  |succ N ih=>simp only[jD,k7,ih]
 intro N h;rw[e,e,←kdk (f:=fun k=>if f k=s then 1 else 0) h];refine kay (fun i _=>?_)
 rw[ja];by_cases hi:i=p
 ·rw[if_pos hi,if_pos hi]
 ·rw[if_neg hi,if_neg hi]
theorem kfZ {c s:Int} (h:c≠s):∀N,jD (fun _=>c) s N=0
 |0=>rfl
 |N+1=>by simp only[jD];rw[kfZ h N,if_neg h];rfl
theorem kja {c:Int}:∀N,jD (fun _=>c) c N=N
 |0=>rfl
 |N+1=>by simp only[jD];rw[kja N];simp
theorem kf0 {f g:Nat→Int} {s:Int}:∀{N:Nat},(∀k,k<N→f k=g k)→jD f s N=jD g s N
 |0,_=>rfl
 |N+1,h=>by simp only[jD];rw[kf0 (fun k hk=>h k (by omega)),h N (by omega)]
theorem kgW {f:Nat→Int} {s:Int}:∀{N:Nat},jD f s N=0→∀k,k<N→f k≠s
 |0,_,k,hk=>by omega
 | N+1,h,k,hk=>by
  have h0:=kbr f s N;simp only[jD] at h;by_cases he:f N=s
  ·rw[if_pos he] at h;omega
  ·rw[if_neg he] at h;by_cases hkn:k=N
   ·subst hkn;exact he
   ·exact kgW (N:=N) (by omega) k (by omega)
def ka7 (l:List Int) (size:Int):Nat→Nat→Int
 |0=>fun _ => -1
 |i+1=>if l.getD i 0<0 then qC (ka7 l size i) (size-jT l (i+1)).toNat i else ka7 l size i
theorem kd9 {l:List Int} {size:Int} {N:Nat} (hN:size=N):∀i:Nat,jT l i≤size→(∀k:Nat,(k:Int)<size-jT l i→ka7 l size i k = -1)∧(∀k,ka7 l size i k ≠ -1→kbp l size i k=ka7 l size i k) ∧
  (∀s:Nat,jD (ka7 l size i) s N=if s<i∧l.getD s 0<0 then 1 else 0)∧jD (ka7 l size i) (-1) N=N-jT l i
 |0,_=>by
  refine⟨fun k _=>rfl,fun k h=>absurd rfl h,fun s=>?_,?_⟩
  ·rw[if_neg (by omega)];exact kfZ (by omega) N
  ·simp only[ka7,jT];rw[kja];omega
 | i + 1,hle=>by
  have hd:jT l (i+1)=jT l i+(if l.getD i 0<0 then 1 else 0):=rfl;have hr:=kax l i;by_cases h:l.getD i 0<0
  ·rw[if_pos h] at hd;obtain⟨h1,h2,h3,h4⟩:=kd9 (l:=l) (size:=size) hN i (by omega);have hp:((size-jT l (i+1)).toNat:Int)=size-jT l (i+1):=Int.toNat_of_nonneg (by omega);have hpN:(size-jT l (i+1)).toNat<N:=by omega
   have hfresh:ka7 l size i (size-jT l (i+1)).toNat = -1:=h1 _ (by omega);simp only[ka7,kbp];rw[if_pos h,if_pos h];refine⟨fun k hk=>?_,fun k hk=>?_,fun s=>?_,?_⟩
   ·rw[ja,if_neg (by omega)];exact h1 k (by omega)
   ·rw[ja] at hk ⊢
    rw[ja];split
    ·rfl
    ·rename_i hne;rw[if_neg hne] at hk;exact h2 k hk
   ·rw[kdo hpN,hfresh,h3];by_cases hs:s=i
    ·subst hs;rw[if_neg (by omega),if_neg (by omega),if_pos rfl,if_pos ⟨by omega,h⟩];rfl
    ·rw[if_neg (show ¬(-1:Int)=s by omega),if_neg (show ¬(i:Int)=s by omega)];by_cases hc:s<i∧l.getD s 0<0
     ·rw[if_pos hc,if_pos ⟨by omega,hc.2⟩];rfl
     ·rw[if_neg hc,if_neg (fun hh=>hc ⟨by omega,hh.2⟩)];rfl
   ·rw[kdo hpN,hfresh,h4,if_pos rfl,if_neg (by omega)];omega
  ·rw[if_neg h] at hd;obtain⟨h1,h2,h3,h4⟩:=kd9 (l:=l) (size:=size) hN i (by omega);simp only[ka7,kbp];rw[if_neg h,if_neg h,hd];refine⟨fun k hk=>h1 k (by omega),h2,fun s=>?_,by rw[h4];omega⟩
   rw[h3];by_cases hc:s<i∧l.getD s 0<0
   ·rw[if_pos hc,if_pos ⟨by omega,hc.2⟩]
   ·rw[if_neg hc,if_neg];rintro⟨h5,h6⟩;by_cases hs:s=i
    ·subst hs;exact h h6
    ·exact hc ⟨by omega,h6⟩
theorem kf1 {l row:List Int} {size:Int} {N h n:Nat} (hs:kcQ size) (hN:size=N) (hh:(h:Int)=size-jT l n) (hneg:jT l n≤size):∀q:Nat,q≤h→(∀j,j<q→0≤row.getD j 0) →
  (∀k:Nat,k<h→(∀j,j<q→kaf size h j≠k)→jy size h row (ka7 l size n) q k = -1)∧(∀k,jy size h row (ka7 l size n) q k ≠ -1→jy size h row (kbp l size n) q k=jy size h row (ka7 l size n) q k) ∧
  (∀s:Nat,jD (jy size h row (ka7 l size n) q) s N=(if s<n∧l.getD s 0<0 then 1 else 0)+jD (fun j=>row.getD j 0) s q)∧jD (jy size h row (ka7 l size n) q) (-1) N=N-jT l n-q
 | 0,_,_=>by
  obtain⟨h1,h2,h3,h4⟩:=kd9 (l:=l) (size:=size) hN n hneg;refine⟨fun k hk _=>h1 k (by omega),h2,fun s=>?_,?_⟩
  ·show jD (ka7 l size n) s N=_
   rw[h3];simp[jD]
  ·show jD (ka7 l size n) (-1) N=_
   rw[h4];simp
 | q+1,hq,hrow=>by
  have hr:=kax l n;obtain⟨h1,h2,h3,h4⟩:=kf1 (row:=row) (h:=h) (n:=n) hs hN hh hneg q (by omega) (fun j hj=>hrow j (by omega));have hpr:=kcP (size:=size) (high:=h) hs (by omega) q;have hp:((kaf size h q).toNat:Int)=kaf size h q:=Int.toNat_of_nonneg hpr.1;have hpN:(kaf size h q).toNat<N:=by omega
  have hfresh:jy size h row (ka7 l size n) q (kaf size h q).toNat = -1:=by
   refine h1 _ (by omega) (fun j hj e=>?_)
   have:=kpn (size:=size) (h:=h) hs (by omega) (p:=j) (q:=q) (by omega) (by omega) (by omega);omega
  have hrq:=hrow q (by omega);simp only[jy];refine⟨fun k hk hj=>?_,fun k hk=>?_,fun s=>?_,?_⟩
  ·rw[ja,if_neg (fun e=>hj q (by omega) (by omega))];exact h1 k hk (fun j hj'=>hj j (by omega))
  ·rw[ja] at hk ⊢
   rw[ja];split
   ·rfl
   ·rename_i hne;rw[if_neg hne] at hk;exact h2 k hk
  ·rw[kdo hpN,hfresh,h3,if_neg (show ¬(-1:Int)=s by omega)];simp only[jD];omega
  ·rw[kdo hpN,hfresh,h4,if_pos rfl,if_neg (show ¬row.getD q 0 = -1 by omega)];push_cast;omega
theorem kjb (row:List Int) (s:Int):∀i,i≤row.length→jD (fun j=>row.getD j 0) s i=(row.take i).count s
 |0,_=>by simp[jD]
 |i+1,h=>by
  simp only[jD];rw[kjb row s i (by omega),qQ (by omega),List.count_append,List.count_singleton];by_cases he:row.getD i 0=s
  ·rw[if_pos he,if_pos (beq_iff_eq.mpr he)];push_cast;rfl
  ·rw[if_neg he,if_neg (fun h=>he (beq_iff_eq.mp h))];push_cast;rfl
theorem kgX (l:List Int) (s:Nat):∀i,(kaw l i).count (s:Int)=if s<i then(l.getD s 0).toNat else 0
 |0=>by simp[kaw]
 | i+1=>by
  rw[kaw,List.count_append,kgX l s i,List.count_replicate];by_cases h:s=i
  ·subst h;simp
  ·have hb:(((i:Nat):Int)==((s:Nat):Int))=false:=by simp;omega
   have hb':(((s:Nat):Int)==((i:Nat):Int))=false:=by simp;omega
   rw[if_neg (show ¬((((i:Nat):Int)==((s:Nat):Int))=true) by rw[hb];simp)];by_cases h2:s<i
   ·rw[if_pos h2,if_pos (show s<i+1 by omega)];rfl
   ·rw[if_neg h2,if_neg (show ¬s<i+1 by omega)]
theorem kmD {l:List Int} {size:Int} {N:Nat} (hs:kcQ size) (hN:size=N) (h1:∀c∈l,-1≤c) (hsum:jG l=size) (s:Nat) (hsl:s<l.length):jD (qD l size) s N=kE (l.getD s 0):=by
 have hrl:=kbV l h1 l.length (Nat.le_refl _);rw[List.take_length,hsum] at hrl;have hr:=kax l l.length;obtain⟨h,hh⟩:∃h:Nat,(h:Int)=size-jT l l.length:=⟨(kaw l l.length).length,hrl⟩;have hrh:(kaw l l.length).length=h:=by omega
 have hrow:∀j,j<h→0≤(kaw l l.length).getD j 0:=fun j _=>by
  rcases jZ (l:=kaw l l.length) j with hm|hm
  ·exact(kfW l _ _ hm).1
  ·omega
 obtain⟨p1,p2,p3,p4⟩:=kf1 (l:=l) (row:=kaw l l.length) (n:=l.length) hs hN hh (by omega) h (Nat.le_refl _) hrow;have hnone:=kgW (show jD (jy size h (kaw l l.length) (ka7 l size l.length) h) (-1) N=0 by rw[p4];omega);have hsy:qD l size=jy size h (kaw l l.length) (kbp l size l.length) h:=by
  unfold qD;rw[←hh];simp
 rw[hsy,kf0 (fun k hk=>p2 k (hnone k hk)),p3,kjb _ _ _ (by omega),←hrh,List.take_length,kgX,if_pos hsl];have hc : -1≤l.getD s 0:=h1 _ (by rw[List.getD_eq_getElem?_getD,List.getElem?_eq_getElem hsl];exact List.getElem_mem _);unfold kE;by_cases hneg:l.getD s 0<0
 ·rw[if_pos ⟨hsl,hneg⟩,if_pos hneg];omega
 ·rw[if_neg (fun hh=>hneg hh.2),if_neg hneg];omega
theorem wrap_u16 {x:Int} (h0:0≤x) (h1:x<65536):IntKind.u16.wrap x=x:=by
 simp[IntKind.wrap,IntKind.signed,IntKind.bits];omega
theorem keG {a b:Nat} (h:a≤b):(2:Int)^a≤2^b:=by exact_mod_cast Nat.pow_le_pow_right (by omega:0<2) h
theorem kpo {log x size:Int} (hlog:5≤log∧log≤12) (hs:2^log.toNat=size) (h0:1≤x) (h1:x<2*size):∃b:Nat,(b:Int)≤log∧size≤x*2^b∧(x+1)*2^b≤2*size∧bT log x=b∧kgV log size x=x*2^b-size:=by
 obtain⟨n,hn⟩:∃n:Nat,log=n:=⟨log.toNat,by omega⟩;have hsn:(2:Int)^n=size:=by rw[←hs,hn];simp
 have hle:(2:Int)^n≤2^12:=keG (by omega);obtain⟨k,k1,k2,k3⟩:=qn (x:=x) (by omega);have hkn:k≤n:=by
  apply Classical.byContradiction
  intro hc;have:=keG (a:=n+1) (b:=k) (by omega);rw[Int.pow_succ] at this;omega
 obtain⟨b,hb⟩:∃b:Nat,n=k+b:=⟨n-k,by omega⟩;have hsz:(2:Int)^k*2^b=size:=by rw[←hsn,hb,Int.pow_add]
 have hb0:(0:Int)<2^b:=Int.pow_pos (by omega);have a1:size≤x*2^b:=by rw[←hsz];exact Int.mul_le_mul_of_nonneg_right k2 (by omega)
 have a2:(x+1)*2^b≤2*size:=by
  have:(x+1)*2^b≤2^(k+1)*2^b:=Int.mul_le_mul_of_nonneg_right (by omega) (by omega);rw[Int.pow_succ,Int.mul_right_comm,hsz] at this;omega
 have a3:x*2^b<2*size:=by rw[Int.add_mul] at a2;omega
 have e1:log+1-kK x=b:=by omega
 refine⟨b,by omega,a1,a2,?_,?_⟩
 ·unfold bT;rw[e1];have:IntKind.u8.wrap b=b:=wrap_u8 (by omega) (by omega);exact this
 ·have ew:IntKind.u64.wrap (b:Int)=b:=wrap_u64 (by omega) (by omega);have es:bV .shl .i64 x b=x*2^b:=by
   show IntKind.i64.wrap (x*2^(min ((b:Int).toNat) IntKind.i64.bits))=x*2^b
   have e:min ((b:Int).toNat) IntKind.i64.bits=b:=by simp[IntKind.bits];omega
   rw[e];exact wrap_i64 (by omega) (by omega)
  unfold kgV;rw[e1,ew,es,ky (by omega) (by omega)];exact wrap_u16 (by omega) (by omega)
theorem kks {l:List Int} {log size:Int} (hR:j6 l log) (hs:2^log.toNat=size):kcQ size:=by
 obtain⟨s,h1,h2⟩:=klc ⟨hR.1,hR.2.1⟩;rw[h1] at hs;subst hs;exact h2
theorem kld {l:List Int} {log size:Int} {N:Nat} (hR:j6 l log) (hs:2^log.toNat=size) (hN:size=N) {k:Nat} (hk:k<N):∃b:Nat,(b:Int)≤log∧kbB l log size N k=b∧0≤kbq l log size N k∧kbq l log size N k+2^b≤size∧1≤kE (l.getD (qD l size k).toNat 0):=by
 have hsz:=kks hR hs;obtain⟨g1,g2,g3,g4,g5,g6,g7⟩:=hR;have hr:=kcO (l:=l) size (by omega) k;obtain⟨s,hsy⟩:∃s:Nat,qD l size k=s:=⟨(qD l size k).toNat,by omega⟩;have hcnt:=kmD hsz hN g6 (by rw[g7,hs]) s (by omega);have hlt:∀(f:Nat→Int) (s:Int) (N k:Nat),k<N→f k=s→jD f s k+1≤jD f s N:=by
  intro f s N;induction N with
  |zero=>intro k h;omega
  | succ N ih=>
   intro k h he;simp only[jD];by_cases hk:k=N
   ·subst hk;rw[if_pos he];omega
   ·have:=ih k (by omega) he;split<;>omega
 have h1:=hlt (qD l size) s N k hk hsy;have h2:=kbr (qD l size) s k;have h3:=kcz g6 s;have hx:xT l (qD l size) k=kE (l.getD s 0)+jD (qD l size) s k:=by unfold xT;rw[hsy,Int.toNat_natCast]
 obtain⟨b,b1,b2,b3,b4,b5⟩:=kpo ⟨g1,g2⟩ hs (x:=xT l (qD l size) k) (by omega) (by rw[hx];omega);refine⟨b,b1,?_,?_,?_,by rw[hsy,Int.toNat_natCast];omega⟩
 ·unfold kbB;rw[if_pos hk,b4]
 ·unfold kbq;rw[if_pos hk,b5];omega
 ·unfold kbq;rw[if_pos hk,b5];rw[Int.add_mul] at b3;omega
inductive Enc (N:Nat) (A B C:Nat→Int):List Int→Nat→List Int→Prop
 |nil:Enc N A B C [] 0 []
 |cons {ls v bits s k}:Enc N A B C ls v bits→k<N→A k=s→C k≤v→v-C k<2^(B k).toNat→Enc N A B C (s::ls) k (bits++kC (v-C k) (B k).toNat)
theorem kbX {x:Int} (h0 : -32768≤x) (h1:x<32768):IntKind.i16.wrap x=x:=by
 simp[IntKind.wrap,IntKind.bits,IntKind.signed];omega
theorem kpp {x y:Int} (h0 : -32768≤x+y) (h1:x+y<32768):bV .add .i16 x y=x+y:=kbX h0 h1
theorem kle {x y:Int} (h0:0≤x+y) (h1:x+y<18446744073709551616):bV .add .u64 x y=x+y:=wrap_u64 h0 h1
theorem kpq {x y:Int} (h0:0≤x*y) (h1:x*y<18446744073709551616):bV .mul .u64 x y=x*y:=wrap_u64 h0 h1
theorem kpr {x y:Int} (h0:0≤x) (h1:x<18446744073709551616) (hy:0≤y):bV .quo .u64 x y=x / y:=by
 show IntKind.u64.wrap (x.tdiv y)=x / y
 rw[Int.tdiv_eq_ediv_of_nonneg h0];have:=Int.ediv_nonneg h0 hy;have:=Int.ediv_le_self y h0;exact wrap_u64 (by omega) (by omega)
def rdN (b:List Int) (pos n:Nat):Option Int:=if pos+n≤8*b.length then some (kW (jx b) pos n) else none
def kgo (b:List Int) (pos:Nat) (most v:Int):Option (Int×Nat):=
 if v≥2^(kK most).toNat-1-most then(match rdN b (pos+(kK most-1).toNat) 1 with
   |none=>none
   |some top=>some (if top=1 then v+(2^(kK most-1).toNat-(2^(kK most).toNat-1-most)) else v,pos+(kK most).toNat))
  else some (v,pos+(kK most-1).toNat)
theorem kor {b:List Int} {pos:Nat} {most v:Int} (h:¬v≥2^(kK most).toNat-1-most):kgo b pos most v=some (v,pos+(kK most-1).toNat):=by unfold kgo;rw[if_neg h]
theorem kmE {b:List Int} {pos:Nat} {most v:Int} (h:v≥2^(kK most).toNat-1-most) (h2:rdN b (pos+(kK most-1).toNat) 1=none):kgo b pos most v=none:=by unfold kgo;rw[if_pos h,h2]
theorem kmF {b:List Int} {pos:Nat} {most v top:Int} (h:v≥2^(kK most).toNat-1-most) (h2:rdN b (pos+(kK most-1).toNat) 1=some top) :
  kgo b pos most v=some (if top=1 then v+(2^(kK most-1).toNat-(2^(kK most).toNat-1-most)) else v,pos+(kK most).toNat):=by unfold kgo;rw[if_pos h,h2]
def readS (b:List Int) (ms:Int):Nat→Bool→Int→List Int→Nat→Int×List Int×Nat
 |0,_,_,cs,pos=>(0,cs,pos)
 | f + 1,false,left,cs,pos=>
  if left≤0 then(0,cs,pos)
  else if (cs.length:Int)>ms then(11,[],0)
  else match rdN b pos (kK (left+1)-1).toNat with
   |none=>(10,[],0)
   | some v=>match kgo b pos (left+1) v with
    |none=>(10,[],0)
    |some (v,pos)=>if v-1≠0 then readS b ms f false (left-kE (v-1)) (cs++[v-1]) pos
     else if ((cs++[v-1]).length:Int)>ms then(11,[],0) else readS b ms f true (left-kE (v-1)) (cs++[v-1]) pos
 |f+1,true,left,cs,pos=>match rdN b pos 2 with
  |none=>(10,[],0)
  |some n=>if ((cs++List.replicate n.toNat 0).length:Int)>ms then(11,[],0) else if n=3 then readS b ms f true left (cs++List.replicate n.toNat 0) (pos+2) else readS b ms f false left (cs++List.replicate n.toNat 0) (pos+2)
def keH (b:List Int) (ml ms:Int):List Int×Int×Int×Int:=
 if ml<5∨ml>12∨ms<0∨ms>255 then([],0,0,2)
 else match rdN b 0 4 with
  |none=>([],0,0,10)
  |some x=>if x+5>ml then([],0,0,11) else
   if (readS b ms 600 false (2^(x+5).toNat) [] 4).1≠0 then([],0,0,(readS b ms 600 false (2^(x+5).toNat) [] 4).1)
   else((readS b ms 600 false (2^(x+5).toNat) [] 4).2.1,x+5,((readS b ms 600 false (2^(x+5).toNat) [] 4).2.2+7:Int) / 8,0)
theorem krN (b:List Int) (pos cap bl:Nat) (n acc hv ai:Int) (hbl:bl=b.length) (hby:∀x∈b,isByte x) (hl:b.length≤2^50) (h:RS b pos acc hv ai) (hn:0≤n∧n≤56) :
  Con Try.prog 100 [.ptr 0 .z 4 0,.int .i64 n] [(.one 215 [.fn 121 [.ptr 1 .z 1 0,.ptr 2 .z 1 0],.int .u64 (acc),.int .i64 (hv),.fn 122 [.ptr 2 .z 1 0,.ptr 1 .z 1 0]]),.one 3 [.int .i64 ai],.one 25 [.slice 3 .z 1 bl cap],.ro .u8 b]
   (fun v H R=>R=[]∧∃acc2 hv2 ai2 x e pos2,v=.tup [.int .u64 x,.int .i64 e]∧RS b pos2 acc2 hv2 ai2 ∧
    ((e=0∧rdN b pos n.toNat=some x∧pos2=pos+n.toNat∧0≤x∧x<2^n.toNat)∨(e=10∧rdN b pos n.toNat=none)) ∧
    H=[(.one 215 [.fn 121 [.ptr 1 .z 1 0,.ptr 2 .z 1 0],.int .u64 (acc2),.int .i64 (hv2),.fn 122 [.ptr 2 .z 1 0,.ptr 1 .z 1 0]]),.one 3 [.int .i64 ai2],.one 25 [.slice 3 .z 1 bl cap],.ro .u8 b]):=by
 subst hbl;refine(koi b pos cap n acc hv ai hby hl h).mono ?_
 rintro v H R ⟨rfl,rfl,acc2,hv2,ai2,hrs,rfl⟩;refine⟨rfl,acc2,hv2,ai2,_,_,_,rfl,hrs,?_,rfl⟩
 unfold rbX rbE rbP rdN;by_cases hp:pos+n.toNat≤8*b.length
 ·have hp':(pos:Int)+n≤8*b.length:=by omega
  have hb:=jp (jx b) (ka4 b) pos n.toNat;have hc:0≤n∧n≤56∧(pos:Int)+n≤8*b.length:=⟨hn.1,hn.2,hp'⟩;simp only[if_pos hc,if_pos hn,if_pos hp',if_pos hp];exact .inl ⟨trivial,trivial,trivial,hb⟩
 ·have hp':¬(pos:Int)+n≤8*b.length:=by omega
  have hc:¬(0≤n∧n≤56∧(pos:Int)+n≤8*b.length):=fun h=>hp' h.2.2
  simp only[if_neg hc,if_pos hn,if_neg hp',if_neg hp];exact .inr ⟨trivial,trivial⟩
theorem kjc (b:List Int) (cap:Nat) (ml ms:Int) (hby:∀x∈b,isByte x) (hl:b.length≤140737488355328) (hml : -9223372036854775808≤ml∧ml≤9223372036854775807) (hms : -9223372036854775808≤ms∧ms≤9223372036854775807)
  (cs0:List Int) (log0 used0 e0:Int) (hR:keH b ml ms=(cs0,log0,used0,e0)) :
  Con Try.prog 70 [.slice 0 .z 1 b.length cap,.int .i64 ml,.int .i64 ms] [.ro .u8 b] (fun v H R=>kex 1 R=[]∧1≤H.length∧kdc (H.take 1)=[.ro .u8 b] ∧
   ((e0≠0∧gen v=.tup [.val (.slice none 0 0),.int .i64 0,.int .i64 0,.int .i64 e0]) ∨
    (e0=0∧6≤H.length∧∃c c0 acc hv ai,gen v=.tup [.slice 5 .z 1 cs0.length c,.int .i64 log0,.int .i64 used0,.int .i64 0] ∧
     kdc (H.take 6)=[.ro .u8 b,.buf 5 .u8 b c0,.one 25 [.slice 1 .z 1 b.length c0],.one 3 [.int .i64 ai],.one 215 [.fn 121 [.ptr 3 .z 1 0,.ptr 2 .z 1 0],.int .u64 acc,.int .i64 hv,.fn 122 [.ptr 2 .z 1 0,.ptr 3 .z 1 0]],.buf 124 .i16 cs0 c]))):=by
 have hnew:=kog b cap hl;have hrd:=@krN b;have hleft:=@koj b;have hlen:=kdh;have hparts:=kck;have hst0:=RS.start b;refine kg kr ksd ?_
 intro vb vc vw vtoN vofN vaddN _ _ _ _ _ _ vln vrep vsub vonto _ _ _ _ _ hw qb qc qw qtoN qofN qaddN _ _ _ _ _ _ qln qrep qsub qonto _ _ _ _ _;have hm:=kr;generalize Try.prog=P at *;have hR:(if ml<5∨ml>12∨ms<0∨ms>255 then([],0,0,2)
   else match rdN b 0 4 with
    |none=>([],0,0,10)
    |some x=>if x+5>ml then([],0,0,11) else
     if (readS b ms 600 false (2^(x+5).toNat) [] 4).1≠0 then([],0,0,(readS b ms 600 false (2^(x+5).toNat) [] 4).1)
     else((readS b ms 600 false (2^(x+5).toNat) [] 4).2.1,x+5,((readS b ms 600 false (2^(x+5).toNat) [] 4).2.2+7:Int) / 8,0))=(cs0,log0,used0,e0):=hR
 generalize hbl:b.length=bl at *;cbv;generalize h1:vc .lss ml 5=z1;cases z1
 rotate_left
 ·rw[qc,kf] at h1;have he0:e0=2:=by
   rw[if_pos (by omega)] at hR;simp only[Prod.mk.injEq] at hR;exact hR.2.2.2.symm
  cbv;exact .inl ⟨by rw[he0];decide,by rw[he0]⟩
 rw[qc,ke] at h1;cbv;generalize h2:vc .gtr ml 12=z2;cases z2
 rotate_left
 ·rw[qc,kz] at h2;have he0:e0=2:=by
   rw[if_pos (by omega)] at hR;simp only[Prod.mk.injEq] at hR;exact hR.2.2.2.symm
  cbv;exact .inl ⟨by rw[he0];decide,by rw[he0]⟩
 rw[qc,ku] at h2;cbv;generalize h3:vc .lss ms 0=z3;cases z3
 rotate_left
 ·rw[qc,kf] at h3;have he0:e0=2:=by
   rw[if_pos (by omega)] at hR;simp only[Prod.mk.injEq] at hR;exact hR.2.2.2.symm
  cbv;exact .inl ⟨by rw[he0];decide,by rw[he0]⟩
 rw[qc,ke] at h3;cbv;generalize h4:vc .gtr ms 255=z4;cases z4
 rotate_left
 ·rw[qc,kz] at h4;have he0:e0=2:=by
   rw[if_pos (by omega)] at hR;simp only[Prod.mk.injEq] at hR;exact hR.2.2.2.symm
  cbv;exact .inl ⟨by rw[he0];decide,by rw[he0]⟩
 rw[qc,ku] at h4;rw[if_neg (by omega)] at hR;cbv;refine ka (ρ:=[(0,.z)]) hnew ⟨by rfl,by rfl,by rfl,by cbv;exact⟨kb _,trivial⟩⟩ ?_
 rintro v H R js ⟨rfl,rfl,c0,rfl⟩;have hrd4:=hrd 0 c0 bl 4 0 0 0 rfl hby (by omega) hst0 (by omega);cbv;refine ka (ρ:=[(4,.z),(3,.z),(2,.z),(1,.z)]) hrd4 ⟨by rfl,by rfl,by rfl,by cbv;exact⟨kb _,trivial⟩⟩ ?_
 rintro v H R js2 ⟨rfl,acc2,hv2,ai2,x,e,pos2,rfl,hrs,hcase,rfl⟩;cbv;have h00:vc .neq 0 0=false:=by rw[qc];rfl
 have h100:vc .neq 10 0=true:=by rw[qc];rfl
 rcases hcase with⟨rfl,hrd1,rfl,hx0,hx1⟩|⟨rfl,hrd1⟩
 rotate_left
 ·rw[h100];have he0:e0=10:=by
   have hrd1:rdN b 0 4=none:=hrd1;rw[hrd1] at hR;simp only[Prod.mk.injEq] at hR;exact hR.2.2.2.symm
  cbv;exact .inl ⟨by rw[he0];decide,by rw[he0]⟩
 have hrd1:rdN b 0 4=some x:=hrd1;have hx1:x<16:=hx1;rw[hrd1] at hR;simp only at hR
 rw[h00];have ew1:vw .i64 x=x:=by rw[qw];exact wrap_i64 (by omega) (by omega)
 have ea1:vb .add .i64 x 5=x+5:=by rw[qb,kh (by omega) (by omega)]
 obtain⟨lg,hlg⟩:∃lg:Int,lg=x+5:=⟨_,rfl⟩;rw[←hlg] at ea1 hR;cbv;rw[ew1,ea1];generalize h5:vc .gtr lg ml=z5;cases z5
 rotate_left
 ·rw[qc,kz] at h5;have he0:e0=11:=by
   rw[if_pos (by omega)] at hR;simp only[Prod.mk.injEq] at hR;exact hR.2.2.2.symm
  cbv;exact .inl ⟨by rw[he0];decide,by rw[he0]⟩
 rw[qc,ku] at h5;rw[if_neg (by omega)] at hR;have e2:vw .u64 lg=lg:=by rw[qw];exact wrap_u64 (by omega) (by omega)
 have e3:vb .shl .i64 1 lg=2^lg.toNat:=by rw[qb,kdg (by omega) (by omega)]
 have hpl:=kaM (log:=lg) (by omega);generalize hpw:(2:Int)^lg.toNat=pw at *;have hfuel:∃RES,readS b ms 600 false pw [] 4=RES:=⟨_,rfl⟩;obtain⟨RES,hRES⟩:=hfuel;rw[hRES] at hR;have hbad:∀E:Int,E≠0→RES=(E,[],0)→e0=E:=by
  intro E hE h;rw[h] at hR;simp only at hR
  rw[if_pos hE] at hR;simp only[Prod.mk.injEq] at hR;exact hR.2.2.2.symm
 have hgood:∀cs pos,RES=(0,cs,pos)→cs0=cs∧log0=lg∧used0=((pos:Int)+7) / 8∧e0=0:=by
  intro cs pos h;rw[h] at hR;simp only at hR
  rw[if_neg (by decide)] at hR;simp only[Prod.mk.injEq] at hR;exact⟨hR.1.symm,hR.2.1.symm,hR.2.2.1.symm,hR.2.2.2.symm⟩
 clear hR hrd4 hrd1 hst0;have hrS:=readS.eq_def;cbv;rw[e2,e3];refine⟨⟨by omega⟩,?_⟩
 refine WX.cv (Cv.nilT 6 124 .i16 (by rfl) (by cbv;try exact⟨fun _=>rfl,trivial⟩) (Cv.here ?_))
 cbv;refine kl (α:=Nat×Int×List Int×Nat×Nat×Nat×Int×Int×Int) ([13,14,15,16,17,18,19,20]++[54,55,56,57,58,59,60,61,62,63,64,65,66,67,68,69,70,71,72,73,74,75,76,77,78,79,80,81,82,83,84,85,86,87,88,89,90,91,92,93,94,95,96,97,98,99,100,101,102,103,104,105,106,107,108,109,110,111,112,113,114,115,116,117,118,119,120,121,122,123,124,125,126,127,128,129,130,131,132,133,134,135,136]) [5]
  (fun(f,left,cs,rl,c,pos,acc,hv,ai)=>[(12,.int .i64 left),(6,.slice 5 .z 1 rl c)])
  (fun(f,left,cs,rl,c,pos,acc,hv,ai)=>[(3,.one 3 [.int .i64 ai]),(4,.one 215 [.fn 121 [.ptr 3 .z 1 0,.ptr 2 .z 1 0],.int .u64 acc,.int .i64 hv,.fn 122 [.ptr 2 .z 1 0,.ptr 3 .z 1 0]]),(5,.buf 124 .i16 cs c)])
  (fun(f,left,cs,rl,c,pos,acc,hv,ai)=>readS b ms f false left cs pos=RES∧600≤f+2*cs.length∧cs.length≤256∧rl=cs.length∧RS b pos acc hv ai∧left≤4096)
  (fun(f,left,cs,rl,c,pos,acc,hv,ai)=>f) hw hm ?_ ?_
 ·refine Cv.genAt [] [3,4] (Cv.fold ([13,14,15,16,17,18,19,20]++[54,55,56,57,58,59,60,61,62,63,64,65,66,67,68,69,70,71,72,73,74,75,76,77,78,79,80,81,82,83,84,85,86,87,88,89,90,91,92,93,94,95,96,97,98,99,100,101,102,103,104,105,106,107,108,109,110,111,112,113,114,115,116,117,118,119,120,121,122,123,124,125,126,127,128,129,130,131,132,133,134,135,136]) 6 [5] (by exact Nat.le_refl _) (by exact Nat.le_of_ble_eq_true rfl) (by rfl) (by cbv) ?_)
  intro js;refine⟨(600,_,_,_,_,4,_,_,_),?_,js,rfl⟩
  exact⟨hRES,by omega,by simp,rfl,hrs,by omega⟩
 ·rintro ⟨f,left,cs,rl,c,pos,acc,hv,ai⟩ js ⟨hS,hf,hcl,hrl,hrs3,hle⟩;obtain⟨g,rfl⟩:∃g,f=g+1:=⟨f-1,by omega⟩;have hofn:vofN rl=(rl:Int):=by simp only[qofN]
  rw[readS] at hS;cbv;split
  rotate_left
  ·rename_i hz;rw[qc,ku] at hz;rw[if_pos (by omega)] at hS;obtain⟨rfl,rfl,hu,he0⟩:=hgood _ _ hS.symm;have hlf:=hleft pos c0 acc hv ai (by omega) hrs3;have hposb:(pos:Int)≤8*bl:=by
    obtain⟨at',h1,h2,h3,_⟩:=hrs3;simp only[nc] at *;omega
   obtain⟨lf,hlf1⟩:∃lf:Int,lf=8*(bl:Int)-pos:=⟨_,rfl⟩;simp only[nc] at hlf;rw[←hlf1] at hlf;have eq8:vb .quo .i64 lf 8=lf / 8:=by rw[qb,j3 (by omega) (by omega) (by omega)]
   have hofb:vofN bl=(bl:Int):=by simp only[qofN]
   have eu:vb .sub .i64 (vofN bl) (lf / 8)=used0:=by rw[hofb,qb,ky (by omega) (by omega),hu];simp only[nc] at *;omega
   cbv;refine ka (ρ:=[(4,.z),(3,.z),(2,.z),(1,.z)]) hlf ⟨by rfl,by rfl,by rfl,by cbv;exact⟨kb _,trivial⟩⟩ ?_
   rintro v H R js3 ⟨rfl,rfl,rfl⟩;cbv;rw[eq8,eu,hrl];exact .inr ⟨he0,c,c0,acc,hv,ai,rfl,rfl⟩
  ·rename_i hz;rw[qc,kz] at hz;rw[if_neg (by omega)] at hS;cbv;generalize hz2:vc .gtr (vofN rl) ms=z2;cases z2
   rotate_left
   ·rw[qc,kz,hofn] at hz2;rw[if_pos (by simp only[nc] at *;omega)] at hS;have he0:=hbad 11 (by decide) hS.symm;cbv;exact .inl ⟨by rw[he0];decide,by rw[he0]⟩
   rw[qc,ku,hofn] at hz2;rw[if_neg (by simp only[nc] at *;omega)] at hS;have ea:vb .add .i64 left 1=left+1:=by rw[qb,kh (by omega) (by omega)]
   obtain⟨mo,hmo⟩:∃mo:Int,mo=left+1:=⟨_,rfl⟩;rw[←hmo] at ea hS;have eb:vw .u64 mo=mo:=by rw[qw];exact wrap_u64 (by omega) (by omega)
   have hl1:=hlen mo (by omega);have hmax:=koo (x:=mo) (by omega) (by omega);obtain⟨mk,hmk,hmk1,hmk2⟩:=qn (x:=mo) (by omega);have hvA:=fun v=>@kor b pos mo v
   have hvB:=fun v=>@kmE b pos mo v
   have hvC:=fun v top=>@kmF b pos mo v top
   generalize kgo b pos mo=VR at *;generalize kK mo=mb at *;have ec:vw .u64 mb=mb:=by rw[qw];exact wrap_u64 (by omega) (by omega)
   have ed:vb .shl .i64 1 mb=2^mb.toNat:=by rw[qb,kcl (by omega) (by omega)]
   have ee:vb .sub .i64 mb 1=mb-1:=by rw[qb,ky (by omega) (by omega)]
   have ee2:vw .u64 (mb-1)=mb-1:=by rw[qw];exact wrap_u64 (by omega) (by omega)
   have ef:vb .shl .u64 1 (mb-1)=2^(mb-1).toNat:=by
    have e:(mb-1).toNat=mk:=by omega
    have e4:mb-1=(mk:Int):=by omega
    rw[e,e4,qb];show IntKind.u64.wrap (1*2^(min ((mk:Int).toNat) IntKind.u64.bits))=2^mk
    have e2:min ((mk:Int).toNat) IntKind.u64.bits=mk:=by simp[IntKind.bits];omega
    have hp:(2:Int)^mk≤2^12:=by exact_mod_cast Nat.pow_le_pow_right (by omega:0<2) (by omega:mk≤12)
    have hp0:(0:Int)<2^mk:=Int.pow_pos (by omega);rw[e2,Int.one_mul];exact wrap_u64 (by omega) (by omega)
   have hpm:(2:Int)^mb.toNat=2^(mk+1):=by rw[hmk];rfl
   have hmbt:(mb-1).toNat=mk:=by omega
   have hmbt2:mb.toNat=mk+1:=by omega
   have hpw2:(2:Int)^(mk+1)=2*2^mk:=by rw[Int.pow_succ];omega
   rw[hpm,hpw2] at ed;rw[hmbt] at ef hS;simp only[hmbt,hmbt2,hpw2] at hvA hvB hvC;rw[hpw2] at hmk2;have hqq:(2:Int)^mk≤2^12:=by exact_mod_cast Nat.pow_le_pow_right (by omega:0<2) (by omega:mk≤12)
   have hrdm:=hrd pos c0 bl (mb-1) acc hv ai rfl hby (by omega) hrs3 (by omega);rw[hmbt] at hrdm;generalize hq:(2:Int)^mk=q at *;have eg:vb .sub .i64 (2*q) 1=2*q-1:=by rw[qb,ky (by omega) (by omega)]
   have eh:vb .sub .i64 (2*q-1) mo=2*q-1-mo:=by rw[qb,ky (by omega) (by omega)]
   have ehw:vw .u64 (2*q-1-mo)=2*q-1-mo:=by rw[qw];exact wrap_u64 (by omega) (by omega)
   have ei:vb .sub .u64 q (2*q-1-mo)=q-(2*q-1-mo):=by rw[qb];show IntKind.u64.wrap _=_;exact wrap_u64 (by omega) (by omega)
   obtain⟨tt,htt⟩:∃tt:Int,tt=2*q-1-mo:=⟨_,rfl⟩;rw[←htt] at eh ehw ei;simp only[hq,←htt] at hvA hvB hvC;generalize hq21:2*q-1=q21 at *;generalize hq2:2*q=q2 at *;generalize hmb1:mb-1=mb1 at *;cbv;rw[ea,eb];refine ka (ρ:=[]) hl1 ⟨by rfl,by rfl,by rfl,by cbv⟩ ?_
   rintro v H R js3 ⟨rfl,rfl,rfl⟩;cbv;rw[ec,ed,eg,ea,eh,ehw,ee];refine⟨⟨by omega⟩,?_⟩
   refine ka (ρ:=[(4,.z),(3,.z),(2,.z),(1,.z)]) hrdm ⟨by rfl,by rfl,by rfl,by cbv;exact⟨kb _,trivial⟩⟩ ?_
   rintro v H R js4 ⟨rfl,acc3,hv3,ai3,v1,e1,pos3,rfl,hrs4,hcase,rfl⟩;cbv;rcases hcase with⟨rfl,hrd1,rfl,hv0,hv1⟩|⟨rfl,hrd1⟩
   rotate_left
   ·rw[hrd1] at hS;have he0:=hbad 10 (by decide) hS.symm;rw[h100];cbv;exact .inl ⟨by rw[he0];decide,by rw[he0]⟩
   rw[hrd1] at hS;simp only at hS
   rw[h00];cbv;have hrd1b:=fun acc hv ai h=>hrd (pos+mk) c0 bl 1 acc hv ai rfl hby (by omega) h (by omega)
   generalize hz7:vc .geq v1 tt=z7;have hfin:∀(vv:Int) (pp:Nat),VR v1=some (vv,pp)→(if vv-1≠0 then readS b ms g false (left-kE (vv-1)) (cs++[vv-1]) pp
     else if ((cs++[vv-1]).length:Int)>ms then(11,[],0) else readS b ms g true (left-kE (vv-1)) (cs++[vv-1]) pp)=RES:=by
    intro vv pp h;rw[h] at hS;exact hS
   cases z7
   rw[qc,kO] at hz7;have hval:∃(vv:Int) (pp:Nat),vv=v1∧pp=pos+mk∧VR v1=some (vv,pp)∧0≤vv∧vv≤8192:=⟨_,_,rfl,rfl,hvA _ (by omega),by omega,by omega⟩;obtain⟨vv,pp,rfl,hpp,hvr,hvv0,hvv1⟩:=hval;rw[←hpp] at hrs4;have hrsF:=hrs4;cbv;rotate_left
   rw[qc,jb] at hz7;cbv;refine ka (ρ:=[(4,.z),(3,.z),(2,.z),(1,.z)]) (hrd1b _ _ _ hrs4) ⟨by rfl,by rfl,by rfl,by cbv;exact⟨kb _,trivial⟩⟩ ?_
   rintro v H R js5 ⟨rfl,accF,hvF,aiF,top,e2,pp,rfl,hrsF,hcase2,rfl⟩;cbv;rcases hcase2 with⟨rfl,hrd2,hpp,ht0,ht1⟩|⟨rfl,hrd2⟩
   rotate_left
   ·rw[hvB _ (by omega) hrd2] at hS;have he0:=hbad 10 (by decide) hS.symm;rw[h100];cbv;exact .inl ⟨by rw[he0];decide,by rw[he0]⟩
   rotate_left
   have hvr:=hvC _ _ (by omega) hrd2;rw[h00];cbv;generalize hz8:vc .eql top 1=z8;cases z8
   rw[qc,kx] at hz8;rw[if_neg hz8] at hvr;have hval:∃(vv:Int),vv=v1∧VR v1=some (vv,pp)∧0≤vv∧vv≤8192:=⟨_,rfl,by rw[hvr,hpp];rfl,by omega,by omega⟩;clear hvr;obtain⟨vv,rfl,hvr,hvv0,hvv1⟩:=hval;cbv;rotate_left
   rw[qc,kF] at hz8;rw[if_pos hz8] at hvr;have ej:vb .add .u64 v1 (q-tt)=v1+(q-tt):=by rw[qb,kle (by omega) (by omega)]
   have hval:∃(vv:Int),vv=v1+(q-tt)∧VR v1=some (vv,pp)∧0≤vv∧vv≤8192:=⟨_,rfl,by rw[hvr,hpp];rfl,by omega,by omega⟩;clear hvr;obtain⟨vv,hvv,hvr,hvv0,hvv1⟩:=hval;rw[←hvv] at ej;cbv;rw[ee,ee2,ef,ei,ej];refine⟨⟨by omega⟩,?_⟩
   all_goals
    have hS2:=hfin _ _ hvr;clear hfin hS hvA hvB hvC;have ek:vw .i16 vv=vv:=by rw[qw];exact kbX (by omega) (by omega)
    have el:vb .sub .i16 vv 1=vv-1:=by rw[qb];show IntKind.i16.wrap _=_;exact kbX (by omega) (by omega)
    obtain⟨cc,hcc⟩:∃cc:Int,cc=vv-1:=⟨_,rfl⟩;rw[←hcc] at el hS2;have hpc:=hparts cc (by unfold jF;omega);have hpn:=kcj (c:=cc) (by unfold jF;omega);generalize kE cc=pc at *;have em:vb .sub .i64 left pc=left-pc:=by rw[qb,ky (by omega) (by omega)]
    obtain⟨left2,hl2⟩:∃left2:Int,left2=left-pc:=⟨_,rfl⟩;rw[←hl2] at em hS2;have hvln:vln cs=rl:=by simp only[qln,hrl]
    have hsub:vsub [cc] 0 1=[cc]:=by simp only[qsub];rfl
    have honto:vonto cs rl [cc]=cs++[cc]:=by rw[qonto,hrl];simp
    have hln1:vln [cc]=1:=by simp only[qln];rfl
    have ha1:vaddN rl 1=rl+1:=by simp only[qaddN]
    have ha01:vaddN 0 1=1:=by simp only[qaddN]
    have hrl40:rl≤256:=by omega
    obtain⟨cs2,hcs2⟩:∃cs2:List Int,cs2=cs++[cc]:=⟨_,rfl⟩;have hcl2:cs2.length=rl+1:=by rw[hcs2,List.length_append,hrl];rfl
    rw[←hcs2] at honto hS2;obtain⟨rl2,hrl2⟩:∃rl2:Nat,rl2=rl+1:=⟨_,rfl⟩;rw[←hrl2] at ha1 hcl2;have hofn2:vofN rl2=(rl2:Int):=by simp only[qofN]
    rw[ek,el];refine⟨⟨by rw[ha01,hln1];exact Nat.le_refl _⟩,⟨by rw[hvln];exact Nat.le_refl _⟩,⟨Nat.le_refl _⟩,⟨by rw[ha1];omega⟩,?_⟩
    intro c4 js6 hle4;cbv;refine ka (ρ:=[]) hpc ⟨by rfl,by rfl,by rfl,by cbv⟩ ?_
    rintro v H R js7 ⟨rfl,rfl,rfl⟩;cbv;rw[em,hsub,honto,ha1];generalize hz9:vc .neq cc 0=z9;cases z9
    rotate_left
    ·rw[qc,jl] at hz9;rw[if_pos hz9] at hS2;cbv;refine Cv.fold ([13,14,15,16,17,18,19,20]++[54,55,56,57,58,59,60,61,62,63,64,65,66,67,68,69,70,71,72,73,74,75,76,77,78,79,80,81,82,83,84,85,86,87,88,89,90,91,92,93,94,95,96,97,98,99,100,101,102,103,104,105,106,107,108,109,110,111,112,113,114,115,116,117,118,119,120,121,122,123,124,125,126,127,128,129,130,131,132,133,134,135,136]) 6 [5] (by exact Nat.le_refl _) (by exact Nat.le_of_ble_eq_true rfl) (by rfl) (by cbv) ?_
     intro js;refine⟨(g,_,_,_,_,pp,_,_,_),?_,js,rfl⟩
     refine⟨⟨hS2,by omega,by simp only[nc] at *;omega,hcl2.symm,hrsF,by omega⟩,?_⟩
     show g<g+1
     omega
    rw[qc,ql] at hz9;rw[if_neg hz9] at hS2;cbv;generalize hz10:vc .gtr (vofN rl2) ms=z10;cases z10
    rotate_left
    ·rw[qc,kz,hofn2] at hz10;rw[if_pos (by simp only[nc] at *;omega)] at hS2;have he0:=hbad 11 (by decide) hS2.symm;cbv;exact .inl ⟨by rw[he0];decide,by rw[he0]⟩
    rw[qc,ku,hofn2] at hz10;rw[if_neg (by simp only[nc] at *;omega)] at hS2;cbv;refine kl (α:=Nat×Int×List Int×Nat×Nat×Nat×Int×Int×Int) ([16,56,106,109,116]++[120,121,122,123,124,125,126,127,128,129,130,131,132,133,134,135,136]) [5]
     (fun(f,nn,cs,rl,c,pos,acc,hv,ai)=>[(20,.int .u64 nn),(6,.slice 5 .z 1 rl c)])
     (fun(f,nn,cs,rl,c,pos,acc,hv,ai)=>[(3,.one 3 [.int .i64 ai]),(4,.one 215 [.fn 121 [.ptr 3 .z 1 0,.ptr 2 .z 1 0],.int .u64 acc,.int .i64 hv,.fn 122 [.ptr 2 .z 1 0,.ptr 3 .z 1 0]]),(5,.buf 124 .i16 cs c)])
     (fun(f,nn,cs,rl,c,pos,acc,hv,ai)=>((nn=3∧readS b ms f true left2 cs pos=RES∧601≤f+2*cs.length)∨(nn≠3∧readS b ms f false left2 cs pos=RES∧600≤f+2*cs.length))∧cs.length≤256∧rl=cs.length∧RS b pos acc hv ai∧f≤g)
     (fun(f,nn,cs,rl,c,pos,acc,hv,ai)=>f) hw hm ?_ ?_
    ·refine Cv.genAt [20] [] (Cv.fold ([16,56,106,109,116]++[120,121,122,123,124,125,126,127,128,129,130,131,132,133,134,135,136]) 7 [5] (by exact Nat.le_refl _) (by exact Nat.le_of_ble_eq_true rfl) (by rfl) (by cbv) ?_)
     intro js;refine⟨(g,_,_,_,_,pp,_,_,_),?_,js,rfl⟩
     exact⟨.inl ⟨rfl,hS2,by omega⟩,by simp only[nc] at *;omega,hcl2.symm,hrsF,Nat.le_refl _⟩
    ·rintro⟨f5,nn,cs5,rl5,c5,pos5,acc5,hv5,ai5⟩ js ⟨hS5,hcl5,hrl5,hrs5,hf5⟩;clear hS2;cbv;split
     rotate_left
     ·rename_i hz11;rw[qc,kx] at hz11;obtain⟨_,hS6,hf6⟩:=hS5.resolve_left (fun h=>hz11 h.1);cbv;refine Cv.fold ([13,14,15,16,17,18,19,20]++[54,55,56,57,58,59,60,61,62,63,64,65,66,67,68,69,70,71,72,73,74,75,76,77,78,79,80,81,82,83,84,85,86,87,88,89,90,91,92,93,94,95,96,97,98,99,100,101,102,103,104,105,106,107,108,109,110,111,112,113,114,115,116,117,118,119,120,121,122,123,124,125,126,127,128,129,130,131,132,133,134,135,136]) 6 [5] (by exact Nat.le_refl _) (by exact Nat.le_of_ble_eq_true rfl) (by rfl) (by cbv) ?_
      intro js;refine⟨(f5,_,_,_,_,pos5,_,_,_),?_,js,rfl⟩
      refine⟨⟨hS6,hf6,hcl5,hrl5,hrs5,by omega⟩,?_⟩
      show f5<g+1
      omega
     ·rename_i hz11;rw[qc,kF] at hz11;obtain⟨_,hS6,hf6⟩:=hS5.resolve_right (fun h=>h.1 hz11);obtain⟨g5,rfl⟩:∃g5,f5=g5+1:=⟨f5-1,by omega⟩;rw[readS] at hS6;have hrd5:=hrd pos5 c0 bl 2 acc5 hv5 ai5 rfl hby (by omega) hrs5 (by omega);cbv;refine ka (ρ:=[(4,.z),(3,.z),(2,.z),(1,.z)]) hrd5 ⟨by rfl,by rfl,by rfl,by cbv;exact⟨kb _,trivial⟩⟩ ?_
      rintro v H R js8 ⟨rfl,acc6,hv6,ai6,n2,e2,pos6,rfl,hrs6,hcase6,rfl⟩;cbv;rcases hcase6 with⟨rfl,hrd6,hpos6,hn0,hn1⟩|⟨rfl,hrd6⟩
      rotate_left
      ·have hrd6:rdN b pos5 2=none:=hrd6;rw[hrd6] at hS6;have he0:=hbad 10 (by decide) hS6.symm;rw[h100];cbv;exact .inl ⟨by rw[he0];decide,by rw[he0]⟩
      have hrd6:rdN b pos5 2=some n2:=hrd6;have hpos6:pos6=pos5+2:=hpos6;have hn1:n2<4:=hn1;rw[hrd6] at hS6;simp only at hS6
      rw[←hpos6] at hS6;have htn:vtoN n2=n2.toNat:=by simp only[qtoN]
      have hrep:vrep n2.toNat 0=List.replicate n2.toNat 0:=by simp only[qrep]
      have honto5:vonto cs5 rl5 (List.replicate n2.toNat 0)=cs5++List.replicate n2.toNat 0:=by rw[qonto,hrl5];simp
      obtain⟨cs7,hcs7⟩:∃cs7:List Int,cs7=cs5++List.replicate n2.toNat 0:=⟨_,rfl⟩;rw[←hcs7] at hS6 honto5;have hvln5:vln cs5=rl5:=by simp only[qln,hrl5]
      have ha5:vaddN rl5 n2.toNat=rl5+n2.toNat:=by simp only[qaddN]
      have hcl7:cs7.length=rl5+n2.toNat:=by rw[hcs7,List.length_append,List.length_replicate,hrl5]
      have hrl5b:rl5≤256:=by omega
      have hnN4:n2.toNat<4:=by omega
      obtain⟨rl7,hrl7⟩:∃rl7:Nat,rl7=rl5+n2.toNat:=⟨_,rfl⟩;rw[←hrl7] at ha5 hcl7;have hofn7:vofN rl7=(rl7:Int):=by simp only[qofN]
      clear hcs7;generalize hrepv:List.replicate n2.toNat (0:Int)=rep at *;generalize hnNv:n2.toNat=nN at *;rw[h00];cbv;rw[htn,hrep,ha5];refine⟨⟨hn0⟩,⟨by omega⟩,⟨by rw[hvln5];exact Nat.le_refl _⟩,⟨Nat.le_refl _⟩,⟨by omega⟩,?_⟩
      intro c7 js9 hle7;cbv;rw[honto5,ha5];generalize hz12:vc .gtr (vofN rl7) ms=z12;cases z12
      rotate_left
      ·rw[qc,kz,hofn7] at hz12;rw[if_pos (by simp only[nc] at *;omega)] at hS6;have he0:=hbad 11 (by decide) hS6.symm;cbv;exact .inl ⟨by rw[he0];decide,by rw[he0]⟩
      ·rw[qc,ku,hofn7] at hz12;rw[if_neg (by simp only[nc] at *;omega)] at hS6;cbv;refine Cv.fold ([16,56,106,109,116]++[120,121,122,123,124,125,126,127,128,129,130,131,132,133,134,135,136]) 7 [5] (by exact Nat.le_refl _) (by exact Nat.le_of_ble_eq_true rfl) (by rfl) (by cbv) ?_
       intro js;refine⟨(g5,_,_,_,_,pos6,_,_,_),?_,js,rfl⟩
       refine⟨⟨?_,by simp only[nc] at *;omega,hcl7.symm,hrs6,by omega⟩,?_⟩
       ·by_cases h3:n2=3
        ·rw[if_pos h3] at hS6;exact .inl ⟨h3,hS6,by omega⟩
        ·rw[if_neg h3] at hS6;exact .inr ⟨h3,hS6,by omega⟩
       ·show g5<g5+1
        omega
theorem qj {a:Nat}:∀{b:Nat},a≤b→(2:Int)^a≤2^b
  | 0, h => by obtain rfl:a=0:=by omega
               exact Int.le_refl _
  | b + 1,h=>by
    by_cases e:a=b+1
    · subst e;exact Int.le_refl _
    · have:=qj (a:=a) (b:=b) (by omega)
      have hp:(0:Int)<2^b:=Int.pow_pos (by omega);rw[Int.pow_succ];omega
def kv (c:Int):Prop:=0≤c∧c≤255
theorem jm {l:List Int} (h:∀c∈l,kv c) (i:Nat):0≤l.getD i 0∧l.getD i 0≤255:=by
 rw[List.getD_eq_getElem?_getD];cases hg:l[i]? with
 |none=>simp
 |some y=>exact h y (List.mem_of_getElem? hg)
def pw (w:Int):Int:=if w≤0 then 0 else 2^(w-1).toNat
def sm (l:List Int):Nat→Int
 |0=>0
 |n+1=>sm l n+pw (l.getD n 0)
def on (l:List Int):Nat→Int
 |0=>0
 |n+1=>on l n+(if l.getD n 0=1 then 1 else 0)
def Wt (l:List Int) (M:Nat):Prop:=2≤l.length∧l.length≤256∧l.getD (l.length-1) 0≠0∧(∀i,i<l.length→l.getD i 0≤11)∧2≤on l l.length∧sm l l.length=2^M∧M≤11
def Msz (l:List Int) (m:Int):Prop:=(∃M:Nat,Wt l M∧m=M)∨((∀M,¬Wt l M)∧m=0)
theorem Msz.ex (l:List Int):∃m,Msz l m:=by
 by_cases h:∃M,Wt l M
 ·obtain⟨M,h⟩:=h;exact⟨M,.inl ⟨M,h,rfl⟩⟩
 ·exact⟨0,.inr ⟨fun M hM=>h ⟨M,hM⟩,rfl⟩⟩
theorem kbY {w:Int} (h:w≤11):0≤pw w∧pw w≤1024:=by
 unfold pw;split
 ·omega
 ·have h1:(2:Int)^(w-1).toNat≤2^10:=qj (by omega);have h2:(0:Int)<2^(w-1).toNat:=Int.pow_pos (by omega);omega
theorem kf2 {l:List Int}:∀{i:Nat},(∀j,j<i→l.getD j 0≤11)→0≤sm l i∧sm l i≤1024*i
 |0,_=>by simp[sm]
 |i+1,h=>by
  have h1:=kf2 (l:=l) (i:=i) (fun j hj=>h j (by omega));have h2:=kbY (h i (by omega));simp only[sm]
  push_cast
  omega
theorem kjd (l:List Int):∀i,0≤on l i∧on l i≤i
 |0=>by simp[on]
 |i+1=>by
  have h1:=kjd l i;simp only[on]
  push_cast
  split<;>omega
theorem kje {l:List Int}:∀{i:Nat},(∀j,j<i→l.getD j 0≤11)→on l i≤sm l i
 |0,_=>by simp[on,sm]
 | i+1,h=>by
  have h1:=kje (l:=l) (i:=i) (fun j hj=>h j (by omega));have h2:=kbY (h i (by omega));simp only[on,sm];split
  ·rename_i e;rw[e,show pw 1=1 by decide];omega
  ·omega
theorem kjf:∀n:Nat,0<n→(n &&& (n-1)=0↔∃k,n=2^k):=by
 intro n;induction n using Nat.strongRecOn with
 | _ n ih=>
  intro hn;have hdiv:(n &&& (n-1))=0↔((n &&& (n-1)) / 2=0∧(n &&& (n-1)) % 2=0):=by omega
  rw[hdiv,Nat.and_div_two,show(n &&& (n-1)) % 2=(n % 2) &&& ((n-1) % 2) by rw[←Nat.and_mod_two_pow (n:=1)]];rcases(by omega:n % 2=0∨n % 2=1) with h|h
  ·have h1:(n-1) / 2=n / 2-1:=by omega
   rw[h1,h,Nat.zero_and,ih (n / 2) (by omega) (by omega)];constructor
   ·rintro⟨⟨k,hk⟩,_⟩;exact⟨k+1,by rw[Nat.pow_succ];omega⟩
   ·rintro⟨k,hk⟩;cases k with
    |zero=>omega
    |succ k=>exact⟨⟨k,by rw[Nat.pow_succ] at hk;omega⟩,rfl⟩
  ·have h1:(n-1) / 2=n / 2:=by omega
   rw[h1,Nat.and_self];constructor
   ·rintro⟨h2,_⟩;exact⟨0,by omega⟩
   ·rintro⟨k,hk⟩;cases k with
    |zero=>subst hk;exact⟨rfl,rfl⟩
    |succ k=>rw[Nat.pow_succ] at hk;omega
theorem klf {s:Int} (h0:1≤s) (h1:s<2^64):bV .and .u64 s (s-1)=0↔∃k:Nat,s=2^k:=by
 have hb:(2:Int)^(IntKind.u64).bits=18446744073709551616:=by decide
 rw[kp3 rfl (by omega) (by rw[hb];omega) (by omega) (by rw[hb];omega)];have e:(s-1).toNat=s.toNat-1:=by omega
 rw[e];have key:=kjf s.toNat (by omega);constructor
 ·intro h;obtain⟨k,hk⟩:=key.1 (by exact_mod_cast h);refine⟨k,?_⟩
  have:((s.toNat:Nat):Int)=((2^k:Nat):Int):=by rw[hk]
  rw[Int.toNat_of_nonneg (by omega)] at this;rw[this];push_cast;rfl
 ·rintro⟨k,hk⟩;have:s.toNat=2^k:=by
   have h2:((s.toNat:Nat):Int)=((2^k:Nat):Int):=by rw[Int.toNat_of_nonneg (by omega),hk];push_cast;rfl
   exact_mod_cast h2
  exact_mod_cast key.2 ⟨k,this⟩
theorem kdp (k:Nat):kK (2^k)=k+1:=khv (Int.le_refl _) (by have:(0:Int)<2^k:=Int.pow_pos (by omega);rw[Int.pow_succ];omega)
theorem klg {a b:Nat} (h:(2:Int)^a=2^b):a=b:=by
 have:=kdp a;rw[h,kdp] at this;omega
theorem Msz.ends {l:List Int} {m:Int} (hm:Msz l m) (h1:2≤l.length) (h2:l.length≤256) (h3:l.getD (l.length-1) 0≠0) (h4:∀i,i<l.length→l.getD i 0≤11) :
  (2≤on l l.length→(∃k:Nat,sm l l.length=2^k)→sm l l.length≤2048→m=kK (sm l l.length)-1) ∧
  ((on l l.length<2∨(¬∃k:Nat,sm l l.length=2^k)∨2048<sm l l.length)→m=0):=by
 constructor
 ·rintro k1 ⟨k,hk⟩ k3;have hk11:k≤11:=by
   apply Classical.byContradiction
   intro h;have:(2:Int)^12≤2^k:=qj (by omega);omega
  rcases hm with⟨M,hW,rfl⟩|⟨hn,rfl⟩
  ·have:=hW.2.2.2.2.2.1;rw[this,kdp];omega
  ·exact(hn k ⟨h1,h2,h3,h4,k1,hk,hk11⟩).elim
 ·intro h;rcases hm with⟨M,⟨_,_,_,_,k1,k2,k3⟩,rfl⟩|⟨hn,rfl⟩
  ·rcases h with h|h|h
   ·omega
   ·exact(h ⟨M,k2⟩).elim
   ·have:(2:Int)^M≤2^11:=qj k3;omega
  ·rfl
theorem Msz.none {l:List Int} {m:Int} (hm:Msz l m) (h:l.length<2∨256<l.length∨l.getD (l.length-1) 0=0∨∃i,i<l.length∧11<l.getD i 0):m=0:=by
 rcases hm with⟨M,⟨k1,k2,k3,k4,_⟩,rfl⟩|⟨_,rfl⟩
 ·rcases h with h|h|h|⟨i,hi,h⟩
  ·omega
  ·omega
  ·exact(k3 h).elim
  ·have:=k4 i hi;omega
 ·rfl
theorem klh {w:Int} (h0:0≤w) (h1:w≤11):bV .shr .u64 (bV .shl .u64 1 w) 1=pw w:=by
 have hb:(2:Int)^(IntKind.u64).bits=18446744073709551616:=by decide
 have hp:(2:Int)^w.toNat≤2^11:=qj (by omega);rw[kaL rfl (by omega) (by show w≤64;omega) (by rw[hb];omega),jO (by decide)];unfold pw;split
 ·have:w.toNat=0:=by omega
  rw[this];rfl
 ·obtain⟨k,hk⟩:∃k,w.toNat=k+1:=⟨w.toNat-1,by omega⟩;rw[hk,show(w-1).toNat=k by omega,Int.pow_succ,Int.one_mul];show 2^k*2 / 2=_
  omega
def j4 (b:List Int):Nat→Int
 |0=>0
 |n+1=>j4 b n+b.getD n 0*2^(8*n)
theorem jQ {b:List Int} (hb:∀c∈b,kv c):∀n,0≤j4 b n∧j4 b n<2^(8*n)
 |0=>by simp[j4]
 |n+1=>by
  have ih:=jQ hb n;have hx:=jm hb n;have hp:(0:Int)<2^(8*n):=Int.pow_pos (by decide);have e:(2:Int)^(8*(n+1))=256*2^(8*n):=by rw[show 8*(n+1)=8*n+8 by omega,Int.pow_add];omega
  unfold kv at hx;have h1:0≤b.getD n 0*2^(8*n):=Int.mul_nonneg hx.1 (Int.le_of_lt hp);have h2:b.getD n 0*2^(8*n)≤255*2^(8*n):=Int.mul_le_mul_of_nonneg_right hx.2 (Int.le_of_lt hp);rw[j4,e];omega
theorem kos {n:Nat} (h:n≤64):(2:Int)^n≤2^64:=by
 have:=Nat.pow_le_pow_right (n:=2) (by decide) h
 exact_mod_cast this
theorem kf3 (b:List Int) (cap:Nat) (hb:∀c∈b,kv c) (hl:b.length≤8) :
  Con Try.prog 57 [.slice 0 .z 1 b.length cap] [.ro .u8 b] (fun v H R=>v=.int .u64 (j4 b b.length)∧H=[.ro .u8 b]∧R=[]):=by
 refine kj (kA 1 (by simp) (km (kg kr kr8 ?_)))
 intro vb vc vw vtoN vofN vaddN _ _ _ _ vgd _ vln _ _ _ _ _ _ _ _ hw qb qc qw qtoN qofN qaddN _ _ _ _ qgd _ qln _ _ _ _ _ _ _ _;have hm:=kr;generalize Try.prog=P at *;have hge:=jm hb;have hr:=jQ hb;have hn0:j4 b 0=0:=rfl;have hns:∀i,j4 b (i+1)=j4 b i+b.getD i 0*2^(8*i):=fun _=>rfl
 have h64:=@kos;generalize j4 b=NA at *;generalize hbl:b.length=n at *;have hvln:vln b=n:=by simp only[qln,hbl]
 have hvgd:∀i,vgd b i=b.getD i 0:=fun i=>by simp only[qgd]
 have hto:∀i:Nat,vtoN (i:Int)=i:=fun i=>by simp only[qtoN,Int.toNat_natCast]
 have hadd0:∀i,vaddN 0 i=i:=fun i=>by simp only[qaddN,Nat.zero_add]
 obtain⟨nI,hnI⟩:∃nI:Int,nI=n:=⟨_,rfl⟩;have en:vofN n=nI:=by rw[hnI,qofN]
 cbv;simp only[nc] at *;rw[en];refine kl (α:=Int×Int) ([4,5]++[9,10,11,12,13,14,15,16,17,18,19,20,21]) [] (fun(k,s)=>[(8,.int .i64 k),(3,.int .u64 s)]) (fun _=>[])
  (fun(k,s)=>∃i:Nat,k=i∧i≤n∧s=NA i) (fun(k,_)=>n-k.toNat) hw hm ?_ ?_
 ·refine Cv.genAt [8,3] [] (Cv.fold ([4,5]++[9,10,11,12,13,14,15,16,17,18,19,20,21]) 1 [] (by exact Nat.le_refl _) (by exact Nat.le_of_ble_eq_true rfl) (by rfl) (by cbv) ?_)
  intro js;refine⟨(_,_),?_,js,rfl⟩
  exact⟨0,rfl,by((try simp only[nc] at *);omega),hn0.symm⟩
 ·rintro⟨k,s⟩ js ⟨i,hk,hi,hs⟩;cbv;generalize hz4:vc .lss k nI=z4;cases z4
  rotate_left
  ·rw[qc,kf] at hz4;have hlt:i<n:=by((try simp only[nc] at *);omega)
   have hti:vtoN k=i:=by rw[hk];exact hto i
   have hinR:0≤k∧k<(n:Int):=by((try simp only[nc] at *);omega)
   obtain⟨k1,hk1⟩:∃k1:Int,k1=((i+1:Nat):Int):=⟨_,rfl⟩;have ek:vb .add .i64 k 1=k1:=by rw[qb,kh (by((try simp only[nc] at *);omega)) (by((try simp only[nc] at *);omega))];((try simp only[nc] at *);omega)
   have hmu:∀_:Unit,n-k1.toNat<n-k.toNat:=fun _=>by((try simp only[nc] at *);omega)
   have hx:=hge i;have hri:=hr i;have hri1:=hr (i+1);have hns1:=hns i;have h641:=h64 (n:=8*(i+1)) (by((try simp only[nc] at *);omega));obtain⟨k8,hk8⟩:∃k8:Int,k8=((8*i:Nat):Int):=⟨_,rfl⟩;have e8:vb .mul .i64 8 k=k8:=by rw[qb,qV (by((try simp only[nc] at *);omega)) (by((try simp only[nc] at *);omega))];((try simp only[nc] at *);omega)
   have e8w:vw .u64 k8=k8:=by rw[qw];exact wrap_u64 (by((try simp only[nc] at *);omega)) (by((try simp only[nc] at *);omega))
   have h80:0≤k8:=by((try simp only[nc] at *);omega)
   generalize hxi:b.getD i 0=x at *;have exw:vw .u64 x=x:=by rw[qw];exact wrap_u64 (by((try simp only[nc] at *);omega)) (by((try simp only[nc] at *);omega))
   obtain⟨s1,hs1⟩:∃s1,s1=NA (i+1):=⟨_,rfl⟩;have hpp:(0:Int)<2^(8*i):=Int.pow_pos (by decide);have hxp:0≤x*2^(8*i):=Int.mul_nonneg hx.1 (Int.le_of_lt hpp);have e2:vb .or .u64 s (vb .shl .u64 x k8)=s1:=by
    have ht:k8.toNat=8*i:=by rw[hk8,Int.toNat_natCast]
    rw[qb,kaL rfl hx.1 (by show k8≤((64:Nat):Int);((try simp only[nc] at *);omega)) (by rw[ht];show _<(2:Int)^64;((try simp only[nc] at *);omega)),ht,kdV rfl (8*i) (by((try simp only[nc] at *);omega)) (by((try simp only[nc] at *);omega)) hx.1 (by show _<(2:Int)^64;((try simp only[nc] at *);omega)),hs1,hns1,hs]
   cbv;rw[hti,hadd0,hvgd,hvln,hxi];refine⟨⟨hinR⟩,⟨hlt⟩,⟨hlt⟩,?_⟩
   rw[exw,e8,e8w];refine⟨⟨h80⟩,?_⟩
   rw[e2,ek];refine Cv.fold ([4,5]++[9,10,11,12,13,14,15,16,17,18,19,20,21]) 1 [] (by exact Nat.le_refl _) (by exact Nat.le_of_ble_eq_true rfl) (by rfl) (by cbv) ?_
   intro js;refine⟨(_,_),?_,js,rfl⟩
   exact⟨⟨i+1,hk1,hlt,hs1⟩,hmu ()⟩
  ·rw[qc,ke] at hz4;obtain rfl:i=n:=by((try simp only[nc] at *);omega)
   cbv;exact⟨by rw[hs],trivial⟩
theorem kgY:Con Try.prog 55 [] [] (fun v H R=>v=.agg [.int .i64 1,.int .i64 5,.int .i64 0,.int .i64 2,.int .i64 12,.int .i64 0,.int .i64 1,.int .i64 5,.int .i64 0,.int .i64 3,.int .i64 20,.int .i64 0]∧H=[]∧R=[]):=by
 refine kj (kA 0 (by simp) (km (kg kr kr7 ?_)))
 intro _ _ _ _ _ _ _ _ _ _ _ _ _ _ _ _ _ _ _ _ _ _ _ _ _ _ _ _ _ _ _ _ _ _ _ _ _ _ _ _ _ _ _;cbv
theorem kf4:Con Try.prog 56 [] [] (fun v H R=>v=.agg [.int .i64 3,.int .i64 10,.int .i64 1,.int .i64 3,.int .i64 10,.int .i64 4,.int .i64 4,.int .i64 14,.int .i64 4,.int .i64 5,.int .i64 18,.int .i64 4]∧H=[]∧R=[]):=by
 refine kj (kA 0 (by simp) (km (kg kr krl ?_)))
 intro _ _ _ _ _ _ _ _ _ _ _ _ _ _ _ _ _ _ _ _ _ _ _ _ _ _ _ _ _ _ _ _ _ _ _ _ _ _ _ _ _ _ _;cbv
theorem kmG (y:Int) (hy:0≤y∧y<4294967296):Con Try.prog 118 [.int .u64 1,.int .u64 y] [] (fun v H R=>v=.tup [.int .u64 0,.int .u64 y]∧H=[]∧R=[]):=by
 refine kj (kA 0 (by simp) (km (kg kr krw ?_)))
 intro vb _ _ _ _ _ _ _ _ _ _ _ _ _ _ _ _ _ _ _ _ _ qb _ _ _ _ _ _ _ _ _ _ _ _ _ _ _ _ _ _ _ _;have hm:=kr;generalize Try.prog=P at *;have a1:vb .and .u64 1 4294967295=1:=by rw[qb];rfl
 have a2:vb .shr .u64 1 32=0:=by rw[qb];rfl
 have a3:vb .and .u64 y 4294967295=y:=by
  rw[qb,show(4294967295:Int)=2^32-1 by decide,jY rfl 32 (by decide) hy.1 (by show y<(2:Int)^64;omega)];exact Int.emod_eq_of_lt hy.1 (by show y<4294967296;exact hy.2)
 have a4:vb .shr .u64 y 32=0:=by
  rw[qb,jO (by decide)];exact Int.ediv_eq_zero_of_lt hy.1 (by show y<4294967296;exact hy.2)
 have m1:vb .mul .u64 1 y=y:=by rw[qb];show IntKind.wrap .u64 (1*y)=y;rw[Int.one_mul];exact wrap_u64 hy.1 (by omega)
 have m2:vb .mul .u64 0 y=0:=by rw[qb];show IntKind.wrap .u64 (0*y)=0;rw[Int.zero_mul];rfl
 have p1:vb .add .u64 0 0=0:=by rw[qb];rfl
 have a5:vb .and .u64 0 4294967295=0:=by rw[qb];rfl
 have s0:vb .shr .u64 0 32=0:=by rw[qb];rfl
 have m3:vb .mul .u64 1 0=0:=by rw[qb];rfl
 have m4:vb .mul .u64 0 0=0:=by rw[qb];rfl
 cbv;simp only[a1,a2,a3,a4,m1,m2,p1,a5,s0,m3,m4,and_self]
theorem kps (y:Int) (hy:0≤y∧y<4294967296):Con Try.prog 87 [.int .u64 1,.int .u64 y] [] (fun v H R=>v=.tup [.int .u64 0,.int .u64 y]∧H=[]∧R=[]):=by
 have h:=kmG y hy;refine kj (kA 0 (by simp) (km (kg kr ksi ?_)))
 intro _ _ _ _ _ _ _ _ _ _ _ _ _ _ _ _ _ _ _ _ _ _ _ _ _ _ _ _ _ _ _ _ _ _ _ _ _ _ _ _ _ _ _;have hm:=kr;generalize Try.prog=P at *;cbv;refine ka (ρ:=[]) h ⟨by rfl,by rfl,by rfl,by cbv⟩ ?_
 rintro v H R js ⟨rfl,rfl,rfl⟩;cbv
theorem kkt {L:List Int} {x:Int} {i r n:Nat} (hL:n≤L.length) (hi:L.take i=List.replicate i x) (h:i+r≤n):(L.take i++List.replicate r x++L.drop (i+(List.replicate r x).length)).take (i+r)=List.replicate (i+r) x∧n≤(L.take i++List.replicate r x++L.drop (i+(List.replicate r x).length)).length:=by
 rw[hi,List.replicate_append_replicate];constructor
 ·rw[List.take_append_of_le_length (by simp),List.take_of_length_le (by simp)]
 ·simp;omega
theorem kf5 (x:Int) (cap:Nat) (n:Int) (hx:kv x) (hn:0≤n∧n≤131072) :
  Con Try.prog 58 [.slice 0 .z 1 1 cap,.int .i64 n] [.ro .u8 [x]] (fun v H R=>R=[]∧∃L c,n.toNat≤L.length∧L.take n.toNat=List.replicate n.toNat x∧H=[.ro .u8 [x],.ints 5 .u8 L]∧v=.slice 1 .z 1 n.toNat c∧n.toNat≤c):=by
 have hmul:=kps n (by omega);refine kj (kA 2 (by simp) (km (kg kr kr9 ?_)))
 intro vb vc vw vtoN vofN vaddN vsubN _ vminI vcutN _ _ vln _ vsub _ vsplice _ _ _ _ hw qb qc qw qtoN qofN qaddN qsubN _ qminI qcutN _ _ qln _ qsub _ qsplice _ _ _ _;have hm:=kr;generalize Try.prog=P at *;have hsp:=@kkt;obtain⟨N,hN⟩:∃N:Nat,N=n.toNat:=⟨_,rfl⟩;rw[←hN];have hto:vtoN n=N:=by simp only[qtoN,hN]
 have e1:vofN 1=1:=by rw[qofN];rfl
 have ew1:vw .u64 1=1:=by rw[qw];exact wrap_u64 (by omega) (by omega)
 have ewn:vw .u64 n=n:=by rw[qw];exact wrap_u64 (by omega) (by omega)
 have ewn':vw .i64 n=n:=by rw[qw];exact wrap_i64 (by omega) (by omega)
 have elt:vc .lss n 0=false:=by rw[qc,ke];omega
 have eh0:vc .gtr 0 0=false:=by rw[qc];rfl
 have ehl:vc .gtr n 9223372036854775807=false:=by rw[qc,ku];omega
 have e10:vc .eql 1 0=false:=by rw[qc];rfl
 cbv;generalize hz1:vc .eql n 0=z1;cases z1
 rotate_left
 ·rw[qc,kF] at hz1;have hN0:N=0:=by((try simp only[nc] at *);omega)
  subst hN0;cbv;exact⟨[],0,by simp,by simp,rfl,rfl,Nat.le_refl _⟩
 rw[qc,kx] at hz1;cbv;rw[elt];cbv;rw[e1,ew1,ewn];refine ka (ρ:=[]) hmul ⟨by rfl,by rfl,by rfl,by cbv⟩ ?_
 rintro v H R js ⟨rfl,rfl,rfl⟩;cbv;rw[eh0];cbv;rw[ehl];cbv;rw[e1,e10];cbv;rw[ewn'];generalize hz2:vc .gtr n 8192=z2;obtain⟨nI,hnI⟩:∃nI:Nat,nI=N:=⟨_,rfl⟩;cases z2
 ·rw [qc,ku] at hz2
  cbv;refine⟨⟨hn.1⟩,⟨by omega⟩,?_⟩
  intro L hL;have hln:∀l:List Int,vln l=l.length:=fun l=>by simp only[qln]
  have hL:vtoN n≤vln L:=hL.out;rw[hto,hln] at hL;cbv;rw[hto];have hN1:1≤N:=by((try simp only[nc] at *);omega)
  have hof:∀q:Nat,vofN q=(q:Int):=fun q=>by simp only[qofN]
  have hmi:vminI 1 (vofN N)=1:=by rw[hof,qminI];show(if (N:Int)<1 then(N:Int) else 1)=1;rw[if_neg (by((try simp only[nc] at *);omega))]
  have ht1:vtoN 1=1:=by rw[qtoN];rfl
  have hsx:vsub [x] 0 1=[x]:=by rw[qsub];rfl
  have hadd:∀p q,vaddN p q=p+q:=fun p q=>by simp only[qaddN]
  have hadd0:∀q,vaddN 0 q=q:=fun q=>by simp only[qaddN,Nat.zero_add]
  have hspl:∀(l:List Int) q xs,vsplice l q xs=l.take q++xs++l.drop (q+xs.length):=fun l q xs=>by rw[qsplice]
  have hsubq:∀(l:List Int) q,vsub l 0 q=l.take q:=fun l q=>by simp only[qsub,List.drop_zero]
  obtain⟨L1,hL1⟩:∃L1,L1=vsplice L 0 [x]:=⟨_,rfl⟩;have hL1':N≤L1.length∧L1.take 1=List.replicate 1 x:=by
   have:=hsp (i:=0) (r:=1) (x:=x) hL (by simp) (by((try simp only[nc] at *);omega));rw[hL1,hspl];exact⟨this.2,this.1⟩
  refine⟨⟨by((try simp only[nc] at *);omega),by rw[hln];((try simp only[nc] at *);omega)⟩,⟨by((try simp only[nc] at *);omega),by((try simp only[nc] at *);omega)⟩,⟨by rw[hadd0,hln];simp⟩,⟨by rw[hadd0,hln];exact hL⟩,?_⟩
  rw[e1,hmi,ht1,hsx,hsx,←hL1];refine kl (α:=Int×List Int) ([11]++[61,62,63,64,65,66,67,68,69,70,71,72,73,74,75]) [] (fun(k,M)=>[(10,.int .i64 k)]) (fun(k,M)=>[(1,.ints 5 .u8 M)])
   (fun(k,M)=>∃i:Nat,k=i∧1≤i∧i≤N∧N≤M.length∧M.take i=List.replicate i x) (fun(k,_)=>N-k.toNat) hw hm ?_ ?_
  ·refine Cv.genAt [10] [] (Cv.fold ([11]++[61,62,63,64,65,66,67,68,69,70,71,72,73,74,75]) 2 [] (by exact Nat.le_refl _) (by exact Nat.le_of_ble_eq_true rfl) (by rfl) (by cbv) ?_)
   intro js;refine⟨(_,_),?_,js,rfl⟩
   exact⟨1,rfl,Nat.le_refl _,hN1,hL1'.1,hL1'.2⟩
  ·rintro⟨k,M⟩ js ⟨i,hk,hi1,hi,hM,hMt⟩;cbv;generalize hz4:vc .lss k n=z4;cases z4
   rotate_left
   ·rw[qc,kf] at hz4;have hlt:i<N:=by((try simp only[nc] at *);omega)
    have hti:vtoN k=i:=by rw[hk,qtoN];exact Int.toNat_natCast i
    obtain⟨ch,hch⟩:∃ch,ch=vminI k n:=⟨_,rfl⟩;have hch1:1≤ch∧ch≤k:=by
     rw[hch,qminI];show 1≤(if n<k then n else k)∧(if n<k then n else k)≤k
     split<;>((try simp only[nc] at *);omega)
    obtain⟨c,hc⟩:∃c:Nat,ch=c:=⟨ch.toNat,by((try simp only[nc] at *);omega)⟩;have htc:vtoN ch=c:=by rw[hc,qtoN];exact Int.toNat_natCast c
    have hcut:vcutN 0 i N=i:=by rw[qcutN];show(if N=i then 0 else 0+i)=i;rw[if_neg (by((try simp only[nc] at *);omega))];((try simp only[nc] at *);omega)
    have hsb:vsubN N i=N-i:=by rw[qsubN]
    obtain⟨r,hr⟩:∃r:Nat,r=min c (N-i):=⟨_,rfl⟩;have hmr:vminI (vofN c) (vofN (N-i))=(r:Int):=by
     rw[hof,hof,qminI];show(if ((N-i:Nat):Int)<(c:Int) then((N-i:Nat):Int) else(c:Int))=r
     split<;>((try simp only[nc] at *);omega)
    have htr:vtoN (r:Int)=r:=by rw[qtoN];exact Int.toNat_natCast r
    have hsrc:vsub (vsub M 0 c) 0 r=List.replicate r x:=by
     rw[hsubq,hsubq,List.take_take,show min r c=r by((try simp only[nc] at *);omega)];have h1:M.take r=(M.take i).take r:=by rw[List.take_take,show min r i=r by((try simp only[nc] at *);omega)]
     rw[h1,hMt,List.take_replicate,show min r i=r by((try simp only[nc] at *);omega)]
    obtain⟨M1,hM1⟩:∃M1,M1=vsplice M i (List.replicate r x):=⟨_,rfl⟩;have hM1':M1.take (i+r)=List.replicate (i+r) x∧N≤M1.length:=by
     rw[hM1,hspl];exact hsp hM hMt (by((try simp only[nc] at *);omega))
    have ek:vb .add .i64 k r=k+r:=by rw[qb,kh (by((try simp only[nc] at *);omega)) (by((try simp only[nc] at *);omega))]
    have hmu:∀_:Unit,N-(k+r).toNat<N-k.toNat:=fun _=>by((try simp only[nc] at *);omega)
    cbv;rw[←hch];refine⟨⟨by((try simp only[nc] at *);omega),by((try simp only[nc] at *);omega)⟩,⟨by((try simp only[nc] at *);omega),by((try simp only[nc] at *);omega)⟩,⟨by rw[hadd0,htc,hln];((try simp only[nc] at *);omega)⟩,⟨by rw[hti,hcut,hsb,hln,hadd];((try simp only[nc] at *);omega)⟩,?_⟩
    rw[hti,hcut,hsb,htc,hmr,htr,hsrc,←hM1,ek];refine Cv.fold ([11]++[61,62,63,64,65,66,67,68,69,70,71,72,73,74,75]) 2 [] (by exact Nat.le_refl _) (by exact Nat.le_of_ble_eq_true rfl) (by rfl) (by cbv) ?_
    intro js;refine⟨(_,_),?_,js,rfl⟩
    exact⟨⟨i+r,by((try simp only[nc] at *);omega),by((try simp only[nc] at *);omega),by((try simp only[nc] at *);omega),hM1'.2,hM1'.1⟩,hmu ()⟩
   ·rw[qc,ke] at hz4;obtain rfl:i=N:=by((try simp only[nc] at *);omega)
    cbv;exact⟨M,i,hM,hMt,rfl,rfl,Nat.le_refl _⟩
 ·rw [qc,kz] at hz2
  obtain⟨cm,hcm⟩:∃cm:Int,cm=8192:=⟨_,rfl⟩;have e8:vb .quo .i64 8192 1=8192:=by rw[qb];rfl
  have e8m:vb .mul .i64 8192 1=cm:=by rw[qb,hcm];rfl
  have e80:vc .eql cm 0=false:=by rw[qc,kx,hcm];decide
  cbv;rw[e1];refine⟨⟨by decide⟩,?_⟩
  rw[e8,e8m,e80];cbv;refine⟨⟨hn.1⟩,⟨by omega⟩,?_⟩
  intro L hL;have hln:∀l:List Int,vln l=l.length:=fun l=>by simp only[qln]
  have hL:vtoN n≤vln L:=hL.out;rw[hto,hln] at hL;cbv;rw[hto];have hN1:1≤N:=by((try simp only[nc] at *);omega)
  have hof:∀q:Nat,vofN q=(q:Int):=fun q=>by simp only[qofN]
  have hmi:vminI 1 (vofN N)=1:=by rw[hof,qminI];show(if (N:Int)<1 then(N:Int) else 1)=1;rw[if_neg (by((try simp only[nc] at *);omega))]
  have ht1:vtoN 1=1:=by rw[qtoN];rfl
  have hsx:vsub [x] 0 1=[x]:=by rw[qsub];rfl
  have hadd:∀p q,vaddN p q=p+q:=fun p q=>by simp only[qaddN]
  have hadd0:∀q,vaddN 0 q=q:=fun q=>by simp only[qaddN,Nat.zero_add]
  have hspl:∀(l:List Int) q xs,vsplice l q xs=l.take q++xs++l.drop (q+xs.length):=fun l q xs=>by rw[qsplice]
  have hsubq:∀(l:List Int) q,vsub l 0 q=l.take q:=fun l q=>by simp only[qsub,List.drop_zero]
  obtain⟨L1,hL1⟩:∃L1,L1=vsplice L 0 [x]:=⟨_,rfl⟩;have hL1':N≤L1.length∧L1.take 1=List.replicate 1 x:=by
   have:=hsp (i:=0) (r:=1) (x:=x) hL (by simp) (by((try simp only[nc] at *);omega));rw[hL1,hspl];exact⟨this.2,this.1⟩
  refine⟨⟨by((try simp only[nc] at *);omega),by rw[hln];((try simp only[nc] at *);omega)⟩,⟨by((try simp only[nc] at *);omega),by((try simp only[nc] at *);omega)⟩,⟨by rw[hadd0,hln];simp⟩,⟨by rw[hadd0,hln];exact hL⟩,?_⟩
  rw[e1,hmi,ht1,hsx,hsx,←hL1];refine kl (α:=Int×List Int) ([11]++[61,62,63,64,65,66,67,68,69,70,71,72,73,74,75]) [] (fun(k,M)=>[(10,.int .i64 k)]) (fun(k,M)=>[(1,.ints 5 .u8 M)])
   (fun(k,M)=>∃i:Nat,k=i∧1≤i∧i≤N∧N≤M.length∧M.take i=List.replicate i x) (fun(k,_)=>N-k.toNat) hw hm ?_ ?_
  ·refine Cv.genAt [10] [] (Cv.fold ([11]++[61,62,63,64,65,66,67,68,69,70,71,72,73,74,75]) 2 [] (by exact Nat.le_refl _) (by exact Nat.le_of_ble_eq_true rfl) (by rfl) (by cbv) ?_)
   intro js;refine⟨(_,_),?_,js,rfl⟩
   exact⟨1,rfl,Nat.le_refl _,hN1,hL1'.1,hL1'.2⟩
  ·rintro⟨k,M⟩ js ⟨i,hk,hi1,hi,hM,hMt⟩;cbv;generalize hz4:vc .lss k n=z4;cases z4
   rotate_left
   ·rw[qc,kf] at hz4;have hlt:i<N:=by((try simp only[nc] at *);omega)
    have hti:vtoN k=i:=by rw[hk,qtoN];exact Int.toNat_natCast i
    obtain⟨ch,hch⟩:∃ch,ch=vminI k cm:=⟨_,rfl⟩;have hch1:1≤ch∧ch≤k:=by
     rw[hch,qminI];show 1≤(if cm<k then cm else k)∧(if cm<k then cm else k)≤k
     split<;>((try simp only[nc] at *);omega)
    obtain⟨c,hc⟩:∃c:Nat,ch=c:=⟨ch.toNat,by((try simp only[nc] at *);omega)⟩;have htc:vtoN ch=c:=by rw[hc,qtoN];exact Int.toNat_natCast c
    have hcut:vcutN 0 i N=i:=by rw[qcutN];show(if N=i then 0 else 0+i)=i;rw[if_neg (by((try simp only[nc] at *);omega))];((try simp only[nc] at *);omega)
    have hsb:vsubN N i=N-i:=by rw[qsubN]
    obtain⟨r,hr⟩:∃r:Nat,r=min c (N-i):=⟨_,rfl⟩;have hmr:vminI (vofN c) (vofN (N-i))=(r:Int):=by
     rw[hof,hof,qminI];show(if ((N-i:Nat):Int)<(c:Int) then((N-i:Nat):Int) else(c:Int))=r
     split<;>((try simp only[nc] at *);omega)
    have htr:vtoN (r:Int)=r:=by rw[qtoN];exact Int.toNat_natCast r
    have hsrc:vsub (vsub M 0 c) 0 r=List.replicate r x:=by
     rw[hsubq,hsubq,List.take_take,show min r c=r by((try simp only[nc] at *);omega)];have h1:M.take r=(M.take i).take r:=by rw[List.take_take,show min r i=r by((try simp only[nc] at *);omega)]
     rw[h1,hMt,List.take_replicate,show min r i=r by((try simp only[nc] at *);omega)]
    obtain⟨M1,hM1⟩:∃M1,M1=vsplice M i (List.replicate r x):=⟨_,rfl⟩;have hM1':M1.take (i+r)=List.replicate (i+r) x∧N≤M1.length:=by
     rw[hM1,hspl];exact hsp hM hMt (by((try simp only[nc] at *);omega))
    have ek:vb .add .i64 k r=k+r:=by rw[qb,kh (by((try simp only[nc] at *);omega)) (by((try simp only[nc] at *);omega))]
    have hmu:∀_:Unit,N-(k+r).toNat<N-k.toNat:=fun _=>by((try simp only[nc] at *);omega)
    cbv;rw[←hch];refine⟨⟨by((try simp only[nc] at *);omega),by((try simp only[nc] at *);omega)⟩,⟨by((try simp only[nc] at *);omega),by((try simp only[nc] at *);omega)⟩,⟨by rw[hadd0,htc,hln];((try simp only[nc] at *);omega)⟩,⟨by rw[hti,hcut,hsb,hln,hadd];((try simp only[nc] at *);omega)⟩,?_⟩
    rw[hti,hcut,hsb,htc,hmr,htr,hsrc,←hM1,ek];refine Cv.fold ([11]++[61,62,63,64,65,66,67,68,69,70,71,72,73,74,75]) 2 [] (by exact Nat.le_refl _) (by exact Nat.le_of_ble_eq_true rfl) (by rfl) (by cbv) ?_
    intro js;refine⟨(_,_),?_,js,rfl⟩
    exact⟨⟨i+r,by((try simp only[nc] at *);omega),by((try simp only[nc] at *);omega),by((try simp only[nc] at *);omega),hM1'.2,hM1'.1⟩,hmu ()⟩
   ·rw[qc,ke] at hz4;obtain rfl:i=N:=by((try simp only[nc] at *);omega)
    cbv;exact⟨M,i,hM,hMt,rfl,rfl,Nat.le_refl _⟩
def kdH (b:List Int):Int:=b.getD 0 0 % 4
def fmH (b:List Int):Int:=b.getD 0 0 / 4 % 4
def usH (b:List Int):Nat:=if kdH b<2 then(if fmH b=1 then 2 else if fmH b=3 then 3 else 1) else(if fmH b=2 then 4 else if fmH b=3 then 5 else 3)
def btH (b:List Int):Nat:=if kdH b<2 then(if fmH b=1 then 12 else if fmH b=3 then 20 else 5) else(if fmH b=2 then 14 else if fmH b=3 then 18 else 10)
def rwH (b:List Int):Int:=if kdH b<2 then 0 else if fmH b=0 then 1 else 4
def nmH (b:List Int):Int:=if usH b=1 then b.getD 0 0 / 8 else j4 b (usH b) / 16
def szH (b:List Int):Int:=nmH b % 2^btH b
def pkH (b:List Int):Int:=if kdH b<2 then 0 else nmH b / 2^btH b
theorem kku (b:List Int):1≤usH b∧usH b≤5:=by
 unfold usH;split<;>split<;>first|omega|(split<;>omega)
theorem kfH {b:List Int} (hb:∀c∈b,kv c):0≤kdH b∧kdH b≤3∧0≤fmH b∧fmH b≤3:=by
 have:=jm hb 0;unfold kdH fmH;omega
theorem kgZ {b:List Int} (hb:∀c∈b,kv c):0≤nmH b∧nmH b<2^40:=by
 unfold nmH;have h0:=jm hb 0;split
 ·omega
 ·obtain⟨h1,h2⟩:=jQ hb (usH b);have h3:=kku b;have h4:(2:Int)^(8*usH b)≤2^40:=by
   have:=Nat.pow_le_pow_right (n:=2) (by decide) (show 8*usH b≤40 by omega)
   exact_mod_cast this
  omega
theorem qy (l:List Int) (cap:Nat) (m:Int) (hl:∀c∈l,kv c) (hlen:l.length≤140737488355328) (hm0:Msz l m) :
  Con Try.prog 45 [.slice 0 .z 1 l.length cap] [.ro .u8 l] (fun v H R=>v=.int .i64 m∧H=[.ro .u8 l]∧R=[]):=by
 have hlen1:=fun x h=>kdh x h
 refine kj (kA 1 (by simp) (km (kg kr kr2 ?_)))
 intro vb vc _ vtoN vofN vaddN _ _ _ _ vgd _ vln _ _ _ _ _ _ _ _ hw qb qc _ qtoN qofN qaddN _ _ _ _ qgd _ qln _ _ _ _ _ _ _ _;have hm:=kr;generalize Try.prog=P at *;have hends:=hm0.ends;have hnone:=hm0.none;have hge:=jm hl;have hsr:=fun i=>@kf2 l i
 have hor:=kjd l;have hos:=fun i=>@kje l i
 have hs0:sm l 0=0:=rfl;have ho0:on l 0=0:=rfl;have hss:∀i,sm l (i+1)=sm l i+pw (l.getD i 0):=fun _=>rfl
 have hosu:∀i,on l (i+1)=on l i+(if l.getD i 0=1 then 1 else 0):=fun _=>rfl
 have hpr:=@kbY;have hb16:=fun x h0 h1=>@ke2 x h0 h1
 have hpwd:∀w:Int,0≤w→w≤11→vb .shr .u64 (vb .shl .u64 1 w) 1=pw w:=fun w h0 h1=>by rw[qb];exact klh h0 h1
 have hand:∀s:Int,1≤s→s<2^64→(vb .and .u64 s (s-1)=0↔∃k:Nat,s=2^k):=fun s h0 h1=>by rw[qb];exact klf h0 h1
 clear hm0;generalize sm l=SM at *;generalize on l=ON at *;generalize pw=PW at *;generalize kK=BL at *;generalize hn:l.length=n at *;have hto:∀i:Nat,vtoN (i:Int)=i:=fun i=>by simp only[qtoN,Int.toNat_natCast]
 have hadd0:∀i,vaddN 0 i=i:=fun i=>by simp only[qaddN,Nat.zero_add]
 have hvln:vln l=n:=by simp only[qln,hn]
 have hvgd:∀i,vgd l i=l.getD i 0:=fun i=>by simp only[qgd]
 obtain⟨nI,hnI⟩:∃nI:Int,nI=n:=⟨_,rfl⟩;have en:vofN n=nI:=by rw[hnI,qofN]
 cbv;simp only[nc] at *;rw[en];generalize hz1:vc .lss nI 2=z1;cases z1
 rotate_left
 ·rw[qc,kf] at hz1;cbv;have:=hnone (.inl (by((try simp only[nc] at *);omega)));subst this;exact⟨rfl,trivial⟩
 rw[qc,ke] at hz1;cbv;rw[en];generalize hz2:vc .gtr nI 256=z2;cases z2
 rotate_left
 ·rw[qc,kz] at hz2;cbv;have:=hnone (.inr (.inl (by((try simp only[nc] at *);omega))));subst this;exact⟨rfl,trivial⟩
 rw[qc,ku] at hz2;obtain⟨nm,hnm⟩:∃nm:Int,nm=((n-1:Nat):Int):=⟨_,rfl⟩;have enm:vb .sub .i64 nI 1=nm:=by rw[qb,ky (by((try simp only[nc] at *);omega)) (by((try simp only[nc] at *);omega))];((try simp only[nc] at *);omega)
 have htm:vtoN nm=n-1:=by rw[hnm];exact hto _
 cbv;rw[en,enm,htm,hadd0,hvgd,hvln];refine⟨⟨by((try simp only[nc] at *);omega)⟩,⟨by((try simp only[nc] at *);omega)⟩,⟨by((try simp only[nc] at *);omega)⟩,?_⟩
 generalize hz3:vc .eql (l.getD (n-1) 0) 0=z3;cases z3
 rotate_left
 ·rw[qc,kF] at hz3;cbv;have:=hnone (.inr (.inr (.inl hz3)));subst this;exact⟨rfl,trivial⟩
 rw[qc,kx] at hz3;have hends:=hends (by((try simp only[nc] at *);omega)) (by((try simp only[nc] at *);omega)) hz3;cbv;rw[en];refine kl (α:=Int×Int×Int) ([6]++[27,28,29,30,31,32,33,34,35,36,37,38,39,40,41,42,43]) [] (fun(k,s,o)=>[(26,.int .i64 k),(3,.int .u64 s),(4,.int .i64 o)]) (fun _=>[])
  (fun(k,s,o)=>∃i:Nat,k=i∧i≤n∧s=SM i∧o=ON i∧∀j,j<i→l.getD j 0≤11) (fun(k,_)=>n-k.toNat) hw hm ?_ ?_
 ·refine Cv.genAt [26,3,4] [] (Cv.fold ([6]++[27,28,29,30,31,32,33,34,35,36,37,38,39,40,41,42,43]) 1 [] (by exact Nat.le_refl _) (by exact Nat.le_of_ble_eq_true rfl) (by rfl) (by cbv) ?_)
  intro js;refine⟨(_,_,_),?_,js,rfl⟩
  exact⟨0,rfl,by((try simp only[nc] at *);omega),hs0.symm,ho0.symm,fun j hj=>by((try simp only[nc] at *);omega)⟩
 ·rintro⟨k,s,o⟩ js ⟨i,hk,hi,hs,ho,hj⟩;have hsi:=hsr i hj;have hoi:=hor i;cbv;generalize hz4:vc .lss k nI=z4;cases z4
  rotate_left
  ·rw[qc,kf] at hz4;have hlt:i<n:=by((try simp only[nc] at *);omega)
   have hti:vtoN k=i:=by rw[hk];exact hto i
   have hinR:0≤k∧k<(n:Int):=by((try simp only[nc] at *);omega)
   obtain⟨k1,hk1⟩:∃k1:Int,k1=((i+1:Nat):Int):=⟨_,rfl⟩;have ek:vb .add .i64 k 1=k1:=by rw[qb,kh (by((try simp only[nc] at *);omega)) (by((try simp only[nc] at *);omega))];((try simp only[nc] at *);omega)
   have hmu:∀_:Unit,n-k1.toNat<n-k.toNat:=fun _=>by((try simp only[nc] at *);omega)
   have hx:=hge i;have hss1:=hss i;have hos1:=hosu i;cbv;rw[hti,hadd0,hvgd,hvln];refine⟨⟨hinR⟩,⟨hlt⟩,⟨hlt⟩,?_⟩
   generalize hxi:l.getD i 0=x at *;generalize hz5:vc .gtr x 11=z5;cases z5
   rotate_left
   ·rw[qc,kz] at hz5;cbv;have:=hnone (.inr (.inr (.inr ⟨i,hlt,by((try simp only[nc] at *);omega)⟩)));subst this;exact⟨rfl,trivial⟩
   rw[qc,ku] at hz5;have hpx:=hpr (w:=x) (by((try simp only[nc] at *);omega));have hpw:=hpwd x (by((try simp only[nc] at *);omega)) (by((try simp only[nc] at *);omega));obtain⟨s1,hs1⟩:∃s1,s1=SM (i+1):=⟨_,rfl⟩;have es:vb .add .u64 s (PW x)=s1:=by
    rw[qb,hs1,hss1,←hs];exact wrap_u64 (by((try simp only[nc] at *);omega)) (by((try simp only[nc] at *);omega))
   have hjj:∀j,j<i+1→l.getD j 0≤11:=fun j hj2=>by
    by_cases e:j=i
    ·subst e;((try simp only[nc] at *);omega)
    ·exact hj j (by((try simp only[nc] at *);omega))
   cbv;generalize hz6:vc .eql x 1=z6;cases z6
   ·rw[qc,kx] at hz6;rw[if_neg hz6] at hos1;cbv;rw[hpw,es,ek];refine⟨⟨by((try simp only[nc] at *);omega)⟩,?_⟩
    refine Cv.fold ([6]++[27,28,29,30,31,32,33,34,35,36,37,38,39,40,41,42,43]) 1 [] (by exact Nat.le_refl _) (by exact Nat.le_of_ble_eq_true rfl) (by rfl) (by cbv) ?_
    intro js;refine⟨(_,_,_),?_,js,rfl⟩
    exact⟨⟨i+1,hk1,hlt,hs1,by((try simp only[nc] at *);omega),hjj⟩,hmu ()⟩
   ·rw[qc,kF] at hz6;rw[if_pos hz6] at hos1;have eo:vb .add .i64 o 1=o+1:=by rw[qb,kh (by((try simp only[nc] at *);omega)) (by((try simp only[nc] at *);omega))]
    obtain⟨o1,ho1⟩:∃o1,o1=o+1:=⟨_,rfl⟩;rw[←ho1] at eo;cbv;rw[hpw,es,ek,eo];refine⟨⟨by((try simp only[nc] at *);omega)⟩,?_⟩
    refine Cv.fold ([6]++[27,28,29,30,31,32,33,34,35,36,37,38,39,40,41,42,43]) 1 [] (by exact Nat.le_refl _) (by exact Nat.le_of_ble_eq_true rfl) (by rfl) (by cbv) ?_
    intro js;refine⟨(_,_,_),?_,js,rfl⟩
    exact⟨⟨i+1,hk1,hlt,hs1,by((try simp only[nc] at *);omega),hjj⟩,hmu ()⟩
  ·rw[qc,ke] at hz4;obtain rfl:i=n:=by((try simp only[nc] at *);omega)
   obtain⟨he1,he2⟩:=hends (fun j h=>hj j h);rw[←hs,←ho] at he1 he2;have hos2:=hos i hj;rw[←hs,←ho] at hos2;clear hends hnone;cbv;generalize hz5:vc .lss o 2=z5;cases z5
   rotate_left
   ·rw[qc,kf] at hz5;cbv;have:=he2 (.inl hz5);subst this;exact⟨rfl,trivial⟩
   rw[qc,ke] at hz5;have hs1:1≤s:=by((try simp only[nc] at *);omega)
   have hs2:s<2^64:=by((try simp only[nc] at *);omega)
   have hands:=hand s hs1 hs2;obtain⟨sm1,hsm⟩:∃sm1,sm1=s-1:=⟨_,rfl⟩;have esm:vb .sub .u64 s 1=sm1:=by rw[qb,hsm];exact wrap_u64 (by((try simp only[nc] at *);omega)) (by((try simp only[nc] at *);omega))
   rw[←hsm] at hands;obtain⟨an,han⟩:∃an,an=vb .and .u64 s sm1:=⟨_,rfl⟩;rw[←han] at hands;cbv;rw[esm,←han];generalize hz6:vc .neq an 0=z6;cases z6
   rotate_left
   ·rw[qc,jl] at hz6;cbv;have:=he2 (.inr (.inl (fun h=>hz6 (hands.2 h))));subst this;exact⟨rfl,trivial⟩
   rw[qc,ql] at hz6;have hex:=hands.1 (Classical.not_not.1 hz6);cbv;generalize hz7:vc .gtr s 2048=z7;cases z7
   rotate_left
   ·rw[qc,kz] at hz7;cbv;have:=he2 (.inr (.inr hz7));subst this;exact⟨rfl,trivial⟩
   rw[qc,ku] at hz7;have hmv:=he1 (by((try simp only[nc] at *);omega)) hex (by((try simp only[nc] at *);omega));have hlc:=hlen1 s ⟨by((try simp only[nc] at *);omega),by((try simp only[nc] at *);omega)⟩;obtain⟨bl,hbl⟩:∃bl,bl=BL s:=⟨_,rfl⟩;rw[←hbl] at hmv hlc;cbv;refine ka (ρ:=[]) hlc ⟨by rfl,by rfl,by rfl,by cbv⟩ ?_
   rintro v H R js2 ⟨rfl,rfl,rfl⟩;have em:vb .sub .i64 bl 1=m:=by
    have:=hb16 s (by((try simp only[nc] at *);omega)) (by((try simp only[nc] at *);omega));rw[qb,hmv,ky (by((try simp only[nc] at *);omega)) (by((try simp only[nc] at *);omega))]
   cbv;rw[em];exact⟨rfl,trivial⟩
theorem kf6 {l:List Int} (h:∀c∈l,kv c) (i:Nat):0≤l.getD i 0:=(jm h i).1
theorem p2 (n:Nat):(0:Int)<2^n:=Int.pow_pos (by omega)
theorem p2s (n:Nat):(2:Int)^(n+1)=2^n*2:=Int.pow_succ _ _
theorem kp8 {w:Int} {L:Nat} (h:w=L) (hL:1≤L):pw w=2^(L-1):=by
  unfold pw;rw[if_neg (by omega)];congr 1
  omega
def low (l:List Int) (L:Nat):Nat→Int
  |0=>0
  |k+1=>low l L k+(if l.getD k 0<L then pw (l.getD k 0) else 0)
def kea (l:List Int) (L:Nat):Nat→Int
  |0=>0
  |i+1=>kea l L i+(if l.getD i 0=L then 2^(L-1) else 0)
def gs (l:List Int) (L i:Nat):Int:=low l L l.length+kea l L i
theorem kp9 (w:Int):0≤pw w:=by
  unfold pw;split
  · omega
  · exact Int.le_of_lt (p2 _)
theorem kli (l:List Int) (h:∀c∈l,kv c):∀k,low l 1 k=0
  |0=>rfl
  | k + 1=>by
    have h0:=kf6 h k;simp only[low,kli l h k];split
    · rename_i e
      have:l.getD k 0=0:=by omega
      rw[this];rfl
    · rfl
theorem kkv (l:List Int) (h:∀c∈l,kv c):gs l 1 0=0:=by unfold gs;rw[kli l h];rfl
theorem kbs (l:List Int) (L i:Nat):gs l L (i+1)=gs l L i+(if l.getD i 0=L then 2^(L-1) else 0):=by
  unfold gs;simp only[kea];omega
theorem kjg (l:List Int) {L:Nat} (hL:1≤L):∀k,low l (L+1) k=low l L k+kea l L k
  |0=>rfl
  | k + 1=>by
    simp only[low,kea,kjg l hL k];by_cases h:l.getD k 0=L
    · rw[if_pos (by push_cast;omega),if_neg (by omega),if_pos h,kp8 h hL]
      omega
    · rw[if_neg h]
      by_cases h2:l.getD k 0<L
      · rw[if_pos (by push_cast;omega),if_pos h2];omega
      · rw[if_neg (by push_cast;omega),if_neg h2];omega
theorem kcn (l:List Int) {L:Nat} (hL:1≤L):gs l (L+1) 0=gs l L l.length:=by
  unfold gs;rw[kjg l hL];simp[kea]
theorem klj (l:List Int) {L:Nat}:∀k,(∀j,j<k→l.getD j 0<L)→low l L k=sm l k
  |0,_=>rfl
  | k+1,h=>by
    simp only[low,sm,klj l k (fun j hj=>h j (by omega)),if_pos (h k (by omega))]
theorem klk (l:List Int) (L:Nat):∀i,0≤kea l L i
  |0=>by simp[kea]
  | i+1=>by
    have:=klk l L i;have:=p2 (L-1);simp only[kea];split<;>omega
theorem kot (l:List Int) (L:Nat):∀i,0≤low l L i
  |0=>by simp[low]
  | i+1=>by
    have:=kot l L i;have:=kp9 (l.getD i 0);simp only[low];split<;>omega
theorem kbt (l:List Int) (L:Nat) {i:Nat}:∀{j:Nat},i≤j→gs l L i≤gs l L j
  | 0, h => by obtain rfl:i=0:=by omega
               exact Int.le_refl _
  | j + 1,h=>by
    by_cases e:i=j+1
    · subst e;exact Int.le_refl _
    · have h1:=kbt l L (i:=i) (j:=j) (by omega)
      have h2:=p2 (L-1);rw[kbs];split<;>omega
theorem kou (l:List Int) {L:Nat} (hL:1≤L):∀{K:Nat},L<K→gs l L l.length≤gs l K 0
  |0,h=>by omega
  | K + 1,h=>by
    by_cases e:L=K
    · subst e;rw[kcn l hL];exact Int.le_refl _
    · have h1:=kou l hL (K:=K) (by omega)
      have h2:=kbt l K (i:=0) (j:=l.length) (by omega);rw[kcn l (by omega)];omega
theorem kll {l:List Int} {i:Nat} (hi2:2≤l.getD i 0):∀{n:Nat},i<n→(∀j,j<n→l.getD j 0≤11)→on l n+pw (l.getD i 0)≤sm l n
  |0,h,_=>by omega
  | n + 1,h,h11=>by
    have hpn:=kp9 (l.getD n 0);simp only[on,sm];by_cases e:i=n
    · subst e
      have:=kje (l:=l) (i:=i) (fun j hj=>h11 j (by omega));rw[if_neg (by omega)];omega
    · have:=kll hi2 (n:=n) (by omega) (fun j hj=>h11 j (by omega))
      split
      · rename_i e1
        rw[e1,show pw 1=1 by decide];omega
      · omega
theorem Wt.le {l:List Int} {M:Nat} (h:Wt l M) (i:Nat) (hi:i<l.length):l.getD i 0≤M:=by
  obtain⟨h1,h2,h3,h4,h5,h6,h7⟩:=h;have ho:=kje (l:=l) (i:=l.length) h4;apply Classical.byContradiction
  intro hc;by_cases e:2≤l.getD i 0
  · have hp:=kll e hi h4
    have h8:(2:Int)^M≤pw (l.getD i 0):=by
      unfold pw;rw[if_neg (by omega)];exact qj (by omega)
    omega
  · have hM:M=0:=by omega
    subst hM;omega
theorem Wt.pos {l:List Int} {M:Nat} (h:Wt l M):1≤M:=by
  obtain⟨h1,h2,h3,h4,h5,h6,h7⟩:=h;have ho:=kje (l:=l) (i:=l.length) h4;cases M with
  |zero=>omega
  |succ M=>omega
theorem khA {l:List Int} {M:Nat} (h:Wt l M):gs l (M+1) 0=2^M:=by
  unfold gs;rw[klj l l.length (fun j hj=>by have:=h.le j hj;push_cast;omega),h.2.2.2.2.2.1];simp[kea]
theorem khB {l:List Int} {M:Nat} (h:Wt l M):∀i,i≤l.length→gs l (M+1) i=2^M
  |0,_=>khA h
  | i+1,hi=>by
    have:=h.le i (by omega);rw[kbs,khB h i (by omega),if_neg (by push_cast;omega)];omega
theorem kdq {l:List Int} {M:Nat} (h:Wt l M) {L i:Nat} (hL1:1≤L) (hL:L≤M+1) (hi:i≤l.length):0≤gs l L i∧gs l L i≤2^M:=by
  constructor
  · have:=kot l L l.length
    have:=klk l L i;unfold gs;omega
  · have h1:=kbt l L hi
    have h2:=khA h;by_cases e:L=M+1
    · subst e;rw[khB h i hi];exact Int.le_refl _
    · have h3:=kou l hL1 (K:=M+1) (by omega)
      omega
theorem kjh (l:List Int) {L:Nat} (hL:1≤L):∀k,∃q:Int,sm l k-low l L k=q*2^(L-1)
  |0=>⟨0,by simp[sm,low]⟩
  | k + 1=>by
    obtain⟨q,hq⟩:=kjh l hL k;simp only[sm,low];by_cases h:l.getD k 0<L
    · exact⟨q,by rw[if_pos h];omega⟩
    · rw[if_neg h]
      refine⟨q+2^((l.getD k 0).toNat-L),?_⟩
      rw[Int.add_mul,←hq,←Int.pow_add];unfold pw;rw[if_neg (by omega),show(l.getD k 0).toNat-L+(L-1)=(l.getD k 0-1).toNat by omega];omega
theorem kji (l:List Int) (L:Nat):∀i,∃q:Int,kea l L i=q*2^(L-1)
  |0=>⟨0,by simp[kea]⟩
  | i+1=>by
    obtain⟨q,hq⟩:=kji l L i;simp only[kea];split
    · exact⟨q+1,by rw[hq,Int.add_mul];omega⟩
    · exact⟨q,by omega⟩
theorem kkw {l:List Int} {M:Nat} (h:Wt l M) {L:Nat} (hL1:1≤L) (hL:L≤M+1) (i:Nat):gs l L i=gs l L i / 2^(L-1)*2^(L-1):=by
  obtain⟨q,hq⟩:=kjh l hL1 l.length;obtain⟨r,hr⟩:=kji l L i;have e:gs l L i=(2^(M-(L-1))-q+r)*2^(L-1):=by
    unfold gs;rw[hr,Int.add_mul,Int.sub_mul,←hq,←Int.pow_add,show M-(L-1)+(L-1)=M by omega,h.2.2.2.2.2.1];omega
  rw[e,Int.mul_ediv_cancel _ (by have:=p2 (L-1);omega)]
def wn (l:List Int) (c:Nat):Nat:=(l.getD c 0).toNat
def Dc (l:List Int) (t:Int) (c:Nat):Prop:=c<l.length∧1≤wn l c∧gs l (wn l c) c≤t∧t<gs l (wn l c) c+2^(wn l c-1)
theorem kqx {l:List Int} (h:∀c∈l,kv c) (c:Nat) (h1:1≤wn l c):gs l (wn l c) (c+1)=gs l (wn l c) c+2^(wn l c-1):=by
  have h0:=kf6 h c;rw[kbs,if_pos (by unfold wn at *;omega)]
theorem Dc.uniq {l:List Int} (h:∀c∈l,kv c) {t:Int} {c d:Nat} (hc:Dc l t c) (hd:Dc l t d):c=d:=by
  have key:∀c d,Dc l t c→Dc l t d→(wn l c<wn l d∨wn l c=wn l d∧c<d)→False:=by
    rintro c d ⟨a1,a2,a3,a4⟩ ⟨b1,b2,b3,b4⟩ h3;rw[←kqx h c a2] at a4;rcases h3 with h3|⟨h3,h4⟩
    · have k1:=kbt l (wn l c) (i:=c+1) (j:=l.length) (by omega)
      have k2:=kou l a2 (K:=wn l d) h3;have k3:=kbt l (wn l d) (i:=0) (j:=d) (by omega);omega
    · have k1:=kbt l (wn l c) (i:=c+1) (j:=d) (by omega)
      rw[h3] at k1 a4;omega
  apply Classical.byContradiction
  intro hne;rcases(by omega:(wn l c<wn l d∨wn l c=wn l d∧c<d)∨(wn l d<wn l c∨wn l d=wn l c∧d<c)) with h1|h1
  · exact key c d hc hd h1
  · exact key d c hd hc h1
theorem cover {l:List Int} (h:∀c∈l,kv c):∀(L i:Nat) (t:Int),1≤L→i≤l.length→0≤t→t<gs l L i→∃c,Dc l t c
  | L,0,t,hL,hi,h0,ht=>by
    by_cases e:L=1
    · subst e;rw[kkv l h] at ht;omega
    · obtain⟨K,hK,rfl⟩:∃K,1≤K∧L=K+1:=⟨L-1,by omega,by omega⟩
      rw[kcn l hK] at ht;exact cover h K l.length t hK (by omega) h0 ht
  | L,i+1,t,hL,hi,h0,ht=>by
    by_cases h1:t<gs l L i
    · exact cover h L i t hL (by omega) h0 h1
    · rw[kbs] at ht
      split at ht
      · rename_i e
        have hw:wn l i=L:=by unfold wn;omega
        exact⟨i,by omega,by omega,by rw[hw];omega,by rw[hw];omega⟩
      · omega
  termination_by L i=>(L,i)
theorem Dc.ex {l:List Int} {M:Nat} (h:∀c∈l,kv c) (hW:Wt l M) {t:Int} (h0:0≤t) (ht:t<2^M):∃c,Dc l t c:=
  cover h (M+1) 0 t (by omega) (by omega) h0 (by rw[khA hW];exact ht)
theorem kg0 {l:List Int} {M:Nat} (hW:Wt l M) {c:Nat} (hc:c<l.length):wn l c≤M:=by have:=hW.le c hc;unfold wn;omega
def wx (l:List Int) (c:Nat):Int:=gs l (wn l c) c / 2^(wn l c-1)
theorem kov {l:List Int} {M:Nat} (hW:Wt l M) {c:Nat} (hc:c<l.length) (h1:1≤wn l c):gs l (wn l c) c=wx l c*2^(wn l c-1):=
  kkw hW h1 (by have:=kg0 hW hc;omega) c
theorem kqy {l:List Int} {M:Nat} (hW:Wt l M) {c:Nat} (hc:c<l.length) (h1:1≤wn l c) (t:Int):Dc l t c↔t / 2^(wn l c-1)=wx l c:=by
  have hm:=kov hW hc h1;have hp:=p2 (wn l c-1);generalize hq:(2:Int)^(wn l c-1)=Q at *;unfold Dc;rw[hq,hm];have h3:wx l c*Q+Q=(wx l c+1)*Q:=by rw[Int.add_mul];omega
  rw[h3];constructor
  · rintro⟨_,_,h4,h5⟩
    have a:=Int.le_ediv_of_mul_le hp h4;have b:=Int.ediv_lt_of_lt_mul hp h5;omega
  · intro h4
    refine⟨hc,h1,?_,?_⟩
    · have:=Int.ediv_mul_le t (show Q≠0 by omega)
      rw[h4] at this;exact this
    · have:=Int.lt_ediv_add_one_mul_self t hp
      rw[h4] at this;exact this
def Pr (l:List Int) (L i c:Nat):Prop:=c<l.length∧1≤wn l c∧(wn l c<L∨wn l c=L∧c<i)
open Classical in
noncomputable def wA (l:List Int) (L i c:Nat):Int:=if Pr l L i c then wx l c else 0
open Classical in
noncomputable def wB (l:List Int) (M L i c:Nat):Int:=if Pr l L i c then(M:Int)+1-wn l c else 0
theorem klm {l:List Int} {c:Nat}:¬Pr l 1 0 c:=by rintro⟨_,h1,h2⟩;omega
theorem kpt (l:List Int):wA l 1 0=fun _=>0:=by funext c;unfold wA;rw[if_neg klm]
theorem kpu (l:List Int) (M:Nat):wB l M 1 0=fun _=>0:=by funext c;unfold wB;rw[if_neg klm]
theorem kln {l:List Int} {L i c:Nat} (h:∀c∈l,kv c) (hi:l.getD i 0≠L):Pr l L (i+1) c↔Pr l L i c:=by
 have h0:=kf6 h c;unfold Pr;constructor
 ·rintro⟨h1,h2,h3⟩;refine⟨h1,h2,?_⟩
  rcases h3 with h3|⟨h3,h4⟩
  ·exact .inl h3
  ·by_cases e:c=i
   ·subst e;unfold wn at h3;omega
   ·exact .inr ⟨h3,by omega⟩
 ·rintro⟨h1,h2,h3⟩;exact⟨h1,h2,by omega⟩
theorem khC {l:List Int} {L i c:Nat} (hn:i<l.length) (hL:1≤L) (hi:l.getD i 0=L):Pr l L (i+1) c↔(c=i∨Pr l L i c):=by
 unfold Pr;constructor
 ·rintro⟨h1,h2,h3⟩;by_cases e:c=i
  ·exact .inl e
  ·exact .inr ⟨h1,h2,by omega⟩
 ·rintro(rfl|⟨h1,h2,h3⟩)
  ·have:wn l c=L:=by unfold wn;omega
   exact⟨hn,by omega,by omega⟩
  ·exact⟨h1,h2,by omega⟩
theorem kpv {l:List Int} {L i:Nat} (h:∀c∈l,kv c) (hi:l.getD i 0≠L):wA l L (i+1)=wA l L i:=by
 funext c;unfold wA;rw[propext (kln (c:=c) h hi)]
theorem kpw {l:List Int} {M L i:Nat} (h:∀c∈l,kv c) (hi:l.getD i 0≠L):wB l M L (i+1)=wB l M L i:=by
 funext c;unfold wB;rw[propext (kln (c:=c) h hi)]
theorem kqz {l:List Int} {L i:Nat} (hn:i<l.length) (hL:1≤L) (hi:l.getD i 0=L):wA l L (i+1)=qC (wA l L i) i (gs l L i / 2^(L-1)):=by
 funext c
 rw[ja];have hw:wn l i=L:=by unfold wn;omega
 by_cases e:c=i
 ·subst e;rw[if_pos rfl];unfold wA;rw[if_pos ((khC hn hL hi).2 (.inl rfl))];unfold wx;rw[hw]
 ·rw[if_neg e];unfold wA;rw[propext ((khC (c:=c) hn hL hi).trans ⟨fun h=>h.resolve_left e,fun h=>.inr h⟩)]
theorem kqA {l:List Int} {M L i:Nat} (hn:i<l.length) (hL:1≤L) (hi:l.getD i 0=L):wB l M L (i+1)=qC (wB l M L i) i ((M:Int)+1-L):=by
 funext c
 rw[ja];have hw:wn l i=L:=by unfold wn;omega
 by_cases e:c=i
 ·subst e;rw[if_pos rfl];unfold wB;rw[if_pos ((khC hn hL hi).2 (.inl rfl)),hw]
 ·rw[if_neg e];unfold wB;rw[propext ((khC (c:=c) hn hL hi).trans ⟨fun h=>h.resolve_left e,fun h=>.inr h⟩)]
theorem klo {l:List Int} {L c:Nat}:Pr l L l.length c↔Pr l (L+1) 0 c:=by
 unfold Pr;constructor
 ·rintro⟨h1,h2,h3⟩;exact⟨h1,h2,by omega⟩
 ·rintro⟨h1,h2,h3⟩;exact⟨h1,h2,by omega⟩
theorem kpx (l:List Int) (L:Nat):wA l L l.length=wA l (L+1) 0:=by funext c;unfold wA;rw[propext (klo (c:=c))]
theorem kpy (l:List Int) (M L:Nat):wB l M L l.length=wB l M (L+1) 0:=by funext c;unfold wB;rw[propext (klo (c:=c))]
def Sy (l:List Int) (c:Nat):Prop:=c<l.length∧1≤wn l c
open Classical in
noncomputable def xA (l:List Int) (c:Nat):Int:=if Sy l c then wx l c else 0
open Classical in
noncomputable def nA (l:List Int) (M c:Nat):Int:=if Sy l c then(M:Int)+1-wn l c else 0
theorem kow {l:List Int} {M:Nat} (hW:Wt l M) {c:Nat}:Pr l (M+2) 0 c↔Sy l c:=by
 unfold Pr Sy;constructor
 ·rintro⟨h1,h2,_⟩;exact⟨h1,h2⟩
 ·rintro⟨h1,h2⟩;have:=kg0 hW h1;exact⟨h1,h2,by omega⟩
theorem kqB {l:List Int} {M:Nat} (hW:Wt l M):wA l (M+2) 0=xA l:=by funext c;unfold wA xA;rw[propext (kow (c:=c) hW)]
theorem kqC {l:List Int} {M:Nat} (hW:Wt l M):wB l M (M+2) 0=nA l M:=by funext c;unfold wB nA;rw[propext (kow (c:=c) hW)]
theorem kbZ {l:List Int} {M:Nat} (hW:Wt l M) (c:Nat):0≤nA l M c∧nA l M c≤M∧(nA l M c=0↔¬Sy l c):=by
 unfold nA;split
 ·rename_i h;have:=kg0 hW h.1;have h2:=h.2;refine⟨by omega,by omega,?_,fun hh=>(hh h).elim⟩
  intro;omega
 ·rename_i h;exact⟨by omega,by omega,fun _=>h,fun _=>rfl⟩
theorem kjj {l:List Int} {M:Nat} (hW:Wt l M) {c:Nat} (hc:Sy l c):0≤wx l c∧wx l c<2^(M+1-wn l c):=by
 have h1:=kdq hW hc.2 (by have:=kg0 hW hc.1;omega) (i:=c) (by have:=hc.1;omega);have h2:=kov hW hc.1 hc.2;have hp:=p2 (wn l c-1);have hle:=kg0 hW hc.1;have hc2:=hc.2;constructor
 ·unfold wx;exact Int.ediv_nonneg h1.1 (by omega)
 ·have h0:Dc l (gs l (wn l c) c) c:=⟨hc.1,hc.2,Int.le_refl _,by omega⟩;apply Int.ediv_lt_of_lt_mul hp
  rw[←Int.pow_add,show M+1-wn l c+(wn l c-1)=M by omega];apply Classical.byContradiction
  intro hlt;have e:gs l (wn l c) c=2^M:=by omega
  have h3:=kbt l (wn l c) (i:=c+1) (j:=l.length) (by have:=hc.1;omega);have h4:=kdq hW hc.2 (by omega) (i:=l.length) (by omega);have h5:gs l (wn l c) (c+1)=gs l (wn l c) c+2^(wn l c-1):=by
   rw[kbs,if_pos (by unfold wn at *;omega)]
  omega
theorem kox {l:List Int} {M:Nat} (hW:Wt l M) (c:Nat):0≤xA l c∧xA l c<4096:=by
 unfold xA;split
 ·rename_i h;have h1:=kjj hW h;have h2:(2:Int)^(M+1-wn l c)≤2^12:=qj (by have:=hW.2.2.2.2.2.2;have:=h.2;omega);omega
 ·omega
noncomputable def pb (l:List Int) (M:Nat) (b:List Int):Nat→List Int
 |0=>[]
 |j+1=>pb l M b j++kC (xA l (b.getD (b.length-1-j) 0).toNat) (nA l M (b.getD (b.length-1-j) 0).toNat).toNat
theorem keb (l:List Int) (M:Nat) (b:List Int):∀j,∀x∈pb l M b j,jc x
 |0=>by simp[pb]
 |j+1=>by
  intro x hx;simp only[pb,List.mem_append] at hx;rcases hx with hx|hx
  ·exact keb l M b j x hx
  ·exact jw _ _ x hx
theorem kf7 {l:List Int} {M:Nat} (hW:Wt l M) (b:List Int):∀j,(pb l M b j).length≤11*j
 |0=>by simp[pb]
 |j+1=>by
  have h1:=kf7 hW b j;have h2:=kbZ hW (b.getD (b.length-1-j) 0).toNat;have h3:=hW.2.2.2.2.2.2;simp only[pb,List.length_append,kM];omega
theorem kqD {l:List Int} {M:Nat} (hW:Wt l M) (b:List Int) (j:Nat):je (pb l M b j) (xA l (b.getD (b.length-1-j) 0).toNat) (nA l M (b.getD (b.length-1-j) 0).toNat)=pb l M b (j+1):=by
 have h2:=kbZ hW (b.getD (b.length-1-j) 0).toNat;have h3:=hW.2.2.2.2.2.2;unfold je;rw[if_pos (by omega)];rfl
end Go.Proofs.Ytlclleihoampdaa
