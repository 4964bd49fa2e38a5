import Derived.Test.YtlclleihoampdaaB1
import Derived.Test.YtlclleihoampdaaFC
import Derived.Test.YtlclleihoampdaaFX
import Derived.Test.YtlclleihoampdaaFD
set_option linter.unusedVariables false
set_option linter.unusedSimpArgs false
namespace Go.Proofs.Ytlclleihoampdaa
open Go Go.Sx Go.Proofs
set_option maxRecDepth 10000 in
set_option maxHeartbeats 40000000 in
theorem khL (l:List Int) (log:Int) (cap:Nat) (hl:∀c∈l,jo c) (hlog : -9223372036854775808≤log∧log≤9223372036854775807) (hR:jc l log) :
  Con Try.prog 66 [.slice 0 .z 1 l.length cap,.int .i64 log] [.ro .i16 l] (fun v H R=>R=[]∧v=.tup [.slice 1 .z 3 (2^log.toNat:Int).toNat (2^log.toNat:Int).toNat,.int .i64 0] ∧
   H=[.ro .i16 l,.arr 79 3 (2^log.toNat:Int).toNat (fun m=>[.int .u8 (jf l (2^log.toNat) m),.int .u8 (qn l log (2^log.toNat) (2^log.toNat:Int).toNat m),.int .u16 (qa l log (2^log.toNat) (2^log.toNat:Int).toNat m)])]):=by
 have hright:=kdi l log cap hl hlog;rw[show decide (jc l log)=true by simp[hR]] at hright;have hparts:=kbL;have hlen:=kcH;have f75:=kpk;have f116:=koM;have f70:=koI;refine kw (kV 2 (by simp) (kH (kl kD koG ?_)))
 intro vb vc vw vtoN vofN vaddN _ _ _ _ vgd vst vln vrep vsub vonto _ _ _ vnotB _ hw qb qc qw qtoN qofN qaddN _ _ _ _ qgd qst qln qrep qsub qonto _ _ _ qnotB _;have hm:=kD;generalize Try.prog=P at *;obtain⟨g1,g2,g3,g4,g5,g6,g7⟩:=hR;have hpl:=kag ⟨g1,g2⟩;obtain⟨size,hsz,hszs⟩:=kjB ⟨g1,g2⟩;rw[hsz] at hpl g7;rw[hsz];obtain⟨N,hN⟩:∃N:Nat,size=N:=⟨size.toNat,by omega⟩;have hNt:size.toNat=N:=by omega
 rw[hNt];generalize hn:l.length=n at *;have hto:∀i:Nat,vtoN (i:Int)=i:=fun i=>by simp only[qtoN,Int.toNat_natCast]
 have htoN:vtoN size=N:=by rw[qtoN];exact hNt
 have hadd0:∀i,vaddN 0 i=i:=fun i=>by simp only[qaddN,Nat.zero_add]
 have hvln:vln l=n:=by simp only[qln,hn]
 have hvgd:∀i,vgd l i=l.getD i 0:=fun i=>by simp only[qgd]
 have hmem:∀i,i<n→l.getD i 0∈l:=fun i hi=>by rw[List.getD_eq_getElem?_getD,List.getElem?_eq_getElem (by omega)];exact List.getElem_mem _
 have hsyd:jf l size=je size (size-jx l n) (j2 l n) (kaC l size n) (size-jx l n).toNat:=by rw[←hn];rfl
 have hsyr:=kce (l:=l) size (by omega);generalize hsyT:jf l size=syT at *;have hB0:qn l log size 0=fun _=>0:=rfl
 have hC0:qa l log size 0=fun _=>0:=rfl
 have hBs:=kkU l log size;have hCs:=kkV l log size;rw[hsyT] at hBs hCs;generalize qn l log size=tB at *;generalize qa l log size=tC at *;cbv;refine ka (ρ:=[(0,.z)]) hright ⟨by rfl,by rfl,by rfl,by cbv;exact⟨kd _,trivial⟩⟩ ?_
 rintro v H R js ⟨rfl,rfl,rfl⟩;have hnb:vnotB true=false:=by simp only[qnotB];rfl
 have e2:vw .u64 log=log:=by rw[qw];exact wrap_u64 (by omega) (by omega)
 have e3:vb .shl .i64 1 log=size:=by rw[qb,kcG (by omega) (by omega),hsz]
 cbv;rw[hnb];cbv;rw[e2,e3,htoN];refine⟨⟨by omega⟩,⟨by omega⟩,⟨by omega⟩,⟨by omega⟩,⟨by omega⟩,fun _=>rfl,fun _=>rfl,fun _=>rfl,?_⟩
 have hx16:∀i,i<n→jo (l.getD i 0):=fun i hi=>hl _ (hmem i hi)
 have hgx:∀i,i<n → -1≤l.getD i 0:=fun i hi=>g6 _ (hmem i hi)
 have hneg:=qW l;have hrl:=kbp l g6;have hsn:kW (l.take n)=size:=by rw[List.take_of_length_le (by omega)];exact g7
 have htk:=jl g6;have hv256:vrep 256 0=List.replicate 256 0:=by simp only[qrep]
 refine WX.cv (Cv.nilB 3 0 5 .u8 (by rfl) (by cbv;exact⟨fun _=>rfl,trivial⟩) (Cv.arrEq 1 (fun m=>[.int .u8 (kaC l size 0 m),.int .u8 0,.int .u16 0]) (by rfl) (by intro i;rfl) (Cv.here ?_)))
 generalize hs0:kaC l size 0=sy0;cbv;rw[hv256];generalize hxs0:List.replicate 256 (0:Int)=xs0;refine kv (α:=Int×Int×(Nat→Int)×List Int×List Int×Nat×Nat) ([11,12]++[31,32,33,34,35,36,37,38,39,40,41,42,43,44,45,46,47,48,49,50,51,52,53,54,55,56,57,58]) [5]
  (fun(k,high,sy,xs,row,rl,c)=>[(30,.int .i64 k),(8,.int .i64 high)])
  (fun(k,high,sy,xs,row,rl,c)=>[(1,.arr 79 3 N (fun m=>[.int .u8 (sy m),.int .u8 0,.int .u16 0])),(3,.one 25 [.slice 5 .z 1 rl c]),(4,.ints 176 .i64 xs),(5,.buf 5 .u8 row c)])
  (fun(k,high,sy,xs,row,rl,c)=>∃i:Nat,k=i∧i≤n∧high=size-jx l i∧sy=kaC l size i∧row=j2 l i∧rl=row.length∧xs.length=256∧∀s,xs.getD s 0=if s<i then km (l.getD s 0) else 0)
  (fun(k,high,sy,xs,row,rl,c)=>n-k.toNat) hw hm ?_ ?_
 ·refine Cv.genAt [30] [] (Cv.fold ([11,12]++[31,32,33,34,35,36,37,38,39,40,41,42,43,44,45,46,47,48,49,50,51,52,53,54,55,56,57,58]) 6 [5] (by exact Nat.le_refl _) (by exact Nat.le_of_ble_eq_true rfl) (by rfl) (by cbv) ?_)
  intro js;refine⟨(_,_,_,_,_,_,_),?_,js,rfl⟩
  refine⟨0,rfl,by omega,by simp[jx],hs0.symm,rfl,rfl,by rw[←hxs0];simp,fun s=>?_⟩
  rw[←hxs0,if_neg (by omega),List.getD_eq_getElem?_getD,List.getElem?_replicate];split<;>rfl
 ·rintro ⟨k,high,sy,xs,row,rl,c⟩ js ⟨i,hk,hi,hhigh,hsy,hrow,hrl1,hxl,hxg⟩;cbv;split
  rotate_left
  ·rename_i hlt;have hin:i=n:=by rw[qc,kb] at hlt;simp only[qofN] at hlt;simp only[nc] at *;omega
   subst hin;cbv;refine⟨fun _=>rfl,?_⟩
   refine kat hw hm f75 (by rfl) ?_
   cbv;refine⟨fun _=>rfl,fun _=>rfl,?_⟩
   intro js1;cbv;refine kaP (by rfl) (by rfl) (by cbv;exact⟨fun _=>rfl,trivial⟩) (by cbv;exact⟨fun _=>rfl,trivial⟩) (by rfl) ?_
   refine kat hw hm f116 (by rfl) ?_
   have hnegi:=hneg i;have hh0:0≤high:=by have:=hrl i (by omega);rw[hsn] at this;simp only[nc] at *;omega
   obtain⟨Hn,hHn⟩:∃Hn:Nat,high=Hn:=⟨high.toNat,by omega⟩;have hrowl:row.length=Hn:=by have:=hrl i (by omega);rw[hsn,←hrow] at this;simp only[nc] at *;omega
   have hsyd2:syT=je size high row sy Hn:=by rw[hsyd,←hhigh,hrow,hsy,hHn];simp
   have hpos:=fun h=>kcf (size:=size) (high:=high) hszs h
   have hp0:qm size high 0=0:=rfl;have hps:∀q,qm size high (q+1)=j9 size high 5000 (stepT size (qm size high q)):=fun q=>rfl
   have hpl0:je size high row sy 0=sy:=rfl;have hpls:∀q,je size high row sy (q+1)=q6 (je size high row sy q) (qm size high q).toNat (row.getD q 0):=fun q=>rfl
   have hstd:∀a,stepT size a=(a+size / 2+size / 8+3) % size:=fun a=>rfl
   have hsb:=fun a=>qV (size:=size) (by omega) a
   have hhit:=fun a h0 h1=>kob (size:=size) hszs (a:=a) h0 h1
   have hsk1:=@ki2 size high;have hsk2:=@keO size high;generalize je size high row sy=PL at *;generalize qm size high=PO at *;generalize stepT size=ST at *;generalize j9 size high=SK at *;have hNle:N≤4096:=by simp only[nc] at *;omega
   clear hparts hright hrl htk hneg;cbv;refine kv (α:=Int×Int×Int×(Nat→Int)) [7,8,9,10,11,12,13,14,15,16,17,18,19,20,21,22,23,24,25,26,27,28,29,30,31,32,33,34,35,36,37] [5]
    (fun(cnt,a,ix,sy2)=>[(6,.int .i64 cnt),(4,.int .i64 a)])
    (fun(cnt,a,ix,sy2)=>[(1,.arr 79 3 N (fun m=>[.int .u8 (sy2 m),.int .u8 0,.int .u16 0])),(6,.one 3 [.int .i64 ix])])
    (fun(cnt,a,ix,sy2)=>∃q:Nat,cnt=q∧q≤Hn∧ix=q∧a=PO q∧sy2=PL q)
    (fun(cnt,a,ix,sy2)=>Hn-cnt.toNat) hw hm ?_ ?_
   ·refine Cv.genAt [6,4] [6] (Cv.fold [7,8,9,10,11,12,13,14,15,16,17,18,19,20,21,22,23,24,25,26,27,28,29,30,31,32,33,34,35,36,37] 11 [5] (by exact Nat.le_refl _) (by exact Nat.le_of_ble_eq_true rfl) (by rfl) (by cbv) ?_)
    intro js;refine⟨(_,_,_,_),?_,js,rfl⟩
    exact⟨0,rfl,by omega,rfl,hp0.symm,hpl0.symm⟩
   ·rintro⟨cnt,a,ix,sy2⟩ js ⟨q,hcnt,hqH,hix,ha,hsy2⟩;cbv;split
    rotate_left
    ·rename_i hlt2;have hqe:q=Hn:=by rw[qc,kb] at hlt2;simp only[nc] at *;omega
     have hsyE:sy2=syT:=by rw[hsy2,hqe,hsyd2]
     subst hsyE;cbv;intro js2;cbv;have hNI:vofN N=size:=by simp only[qofN];exact hN.symm
     have hpsum:=fun s=>qt g6 s
     rw[g7] at hpsum;have hcr:=kaX sy2;have hcs:∀s q,kY sy2 s (q+1)=kY sy2 s q+(if sy2 q=s then 1 else 0):=fun _ _=>rfl
     have hc0:∀s,kY sy2 s 0=0:=fun _=>rfl
     have hxd:∀q,xT l sy2 q=km (l.getD (sy2 q).toNat 0)+kY sy2 (sy2 q) q:=fun _=>rfl
     generalize xT l sy2=XT at *;have hbd:∀x,bT log x=IntKind.u8.wrap (log+1-kB x):=fun _=>rfl
     have hcd:∀x,kfF log size x=IntKind.u16.wrap (bV .sub .i64 (bV .shl .i64 x (IntKind.u64.wrap (log+1-kB x))) size):=fun _=>rfl
     generalize bT log=bTf at *;generalize kfF log size=bAf at *;rw[hNI];clear hps hpls hpos hhit hsk1 hsk2 hsb hstd;refine WX.cv (Cv.arrEq 1 (fun m=>[.int .u8 (sy2 m),.int .u8 (tB 0 m),.int .u16 (tC 0 m)]) (by rfl) (by intro i;rw[hB0,hC0]) (Cv.here ?_))
     cbv;refine kv (α:=Int×(Nat→Int)×(Nat→Int)×List Int) ([15,16,17]++[76,77,78,79,80,81,82,83,84,85,86,87,88,89,90,91,92,93,94,95,96,97,98,99,100,101,102,103,104,105,106,107,108,109,110,111,112,113,114,115,116,117,118,119,120]) [5]
      (fun(k,b,s,xs)=>[(75,.int .i64 k)])
      (fun(k,b,s,xs)=>[(1,.arr 79 3 N (fun m=>[.int .u8 (sy2 m),.int .u8 (b m),.int .u16 (s m)])),(4,.ints 176 .i64 xs)])
      (fun(k,b,s,xs)=>∃q:Nat,k=q∧q≤N∧b=tB q∧s=tC q∧xs.length=256∧∀s,xs.getD s 0=km (l.getD s 0)+kY sy2 s q)
      (fun(k,b,s,xs)=>N-k.toNat) hw hm ?_ ?_
     ·refine Cv.genAt [75] [] (Cv.fold ([15,16,17]++[76,77,78,79,80,81,82,83,84,85,86,87,88,89,90,91,92,93,94,95,96,97,98,99,100,101,102,103,104,105,106,107,108,109,110,111,112,113,114,115,116,117,118,119,120]) 11 [5] (by exact Nat.le_refl _) (by exact Nat.le_of_ble_eq_true rfl) (by rfl) (by cbv) ?_)
      intro js;refine⟨(_,_,_,_),?_,js,rfl⟩
      refine⟨0,rfl,by omega,rfl,rfl,hxl,fun s=>?_⟩
      rw[hxg,hc0];by_cases h:s<i
      ·rw[if_pos h];omega
      ·rw[if_neg h,List.getD_eq_getElem?_getD,List.getElem?_eq_none (by omega)];have:km ((none:Option Int).getD 0)=0:=by decide
       omega
     ·rintro⟨k3,b3,s3,xs3⟩ js ⟨q3,hk3,hq3,hb3,hs3,hxl3,hxg3⟩;cbv;split
      rotate_left
      ·rename_i hlt3;have hqe3:q3=N:=by rw[qc,kb] at hlt3;simp only[nc] at *;omega
       subst hqe3;subst hb3 hs3;cbv
      ·rename_i hlt3;have hqe3:q3<N:=by rw[qc,ko] at hlt3;simp only[nc] at *;omega
       have ht3:vtoN k3=q3:=by rw[hk3];exact hto q3
       have hin3:0≤k3∧k3<(N:Int):=by simp only[nc] at *;omega
       obtain⟨hsr0,hsr1⟩:=hsyr q3;have htsy:vtoN (sy2 q3)=(sy2 q3).toNat:=by simp only[qtoN]
       have hin4:0≤sy2 q3∧sy2 q3<((256:Nat):Int):=by simp only[nc] at *;omega
       have hln3:vln xs3=256:=by rw[qln];exact hxl3
       have hgx3:vgd xs3 (sy2 q3).toNat=XT q3:=by rw[qgd,hxd];show xs3.getD _ 0=_;have hcast:((sy2 q3).toNat:Int)=sy2 q3:=Int.toNat_of_nonneg hsr0;rw[hxg3];simp only[nc];rw[hcast]
       have hxr0:=hpsum (sy2 q3).toNat;have hxr1:=hcr (sy2 q3) q3;have hxq:=hxd q3;generalize hxv:XT q3=xv at *;have hxv0:0≤xv∧xv≤8192:=by simp only[nc] at *;omega
       have exw:vw .u64 xv=xv:=by rw[qw];exact wrap_u64 (by omega) (by omega)
       have hlx:=hlen xv (by omega);have hbl:=kdX (x:=xv) (by omega) (by omega);have hbv:=hbd xv;have hcv:=hcd xv;generalize kB xv=bl at *;have enn:vb .sub .i64 (vb .add .i64 log 1) bl=log+1-bl:=by
        have e:vb .add .i64 log 1=log+1:=by rw[qb,kh (by omega) (by omega)]
        rw[e,qb,ku (by omega) (by omega)]
       generalize hnnv:log+1-bl=nn at *;have hnn0:0≤vw .u64 nn:=by
        rw[qw];simp only[IntKind.wrap,IntKind.bits,IntKind.signed];simp
        omega
       have eB:vw .u8 nn=bTf xv:=by rw[hbv,qw]
       have eC:vw .u16 (vb .sub .i64 (vb .shl .i64 xv (vw .u64 nn)) size)=bAf xv:=by rw[hcv,qw,qb]
       have hBq:=hBs q3;have hCq:=hCs q3;rw[hxv,←hb3] at hBq;rw[hxv,←hs3] at hCq;have ex1:vb .add .i64 xv 1=xv+1:=by rw[qb,kh (by omega) (by omega)]
       obtain⟨k4,hk4⟩:∃k4:Int,k4=((q3+1:Nat):Int):=⟨_,rfl⟩;have ek4:vb .add .i64 k3 1=k4:=by simp only[nc] at *;rw[qb,kh (by omega) (by omega)];omega
       obtain⟨xs4,hxs4⟩:∃xs4,xs4=xs3.set (sy2 q3).toNat (xv+1):=⟨_,rfl⟩;have evs:vst xs3 (sy2 q3).toNat (xv+1)=xs4:=by rw[qst,hxs4]
       have hxl4:xs4.length=256:=by rw[hxs4,List.length_set];exact hxl3
       have hxg4:∀s,xs4.getD s 0=km (l.getD s 0)+kY sy2 s (q3+1):=by
        intro s;rw[hcs,hxs4,List.getD_eq_getElem?_getD,List.getElem?_set,hxl3];by_cases h:(sy2 q3).toNat=s
        ·have hsy:sy2 q3=s:=by simp only[nc] at *;omega
         rw[if_pos h,if_pos (by simp only[nc] at *;omega),if_pos hsy,←hsy];show xv+1=_
         rw[hxq,hsy];simp only[Int.toNat_natCast];omega
        ·rw[if_neg h,if_neg (by simp only[nc] at *;omega),←List.getD_eq_getElem?_getD,hxg3];simp only[nc];omega
       generalize hsq:sy2 q3=sq at *;generalize hsqn:sq.toNat=sqn at *;generalize hb4:tB (q3+1)=b4 at *;generalize hs4:tC (q3+1)=s4 at *;generalize bTf xv=bx at *;generalize bAf xv=ax at *;generalize xv+1=xv1 at *;cbv;rw[ht3,hsq,htsy,hgx3,exw];refine⟨⟨hin3⟩,⟨hqe3⟩,⟨hin4⟩,⟨by simp only[nc] at *;omega⟩,?_⟩
       refine ka (ρ:=[]) hlx ⟨by rfl,by rfl,by rfl,by cbv;exact⟨fun _=>rfl,trivial⟩⟩ ?_
       rintro v H R js5 ⟨rfl,rfl,rfl⟩;cbv;rw[hsq,htsy,hgx3,enn,eB,eC,ex1,evs,kle,klf,hBq,hCq,ek4];refine⟨fun _=>rfl,⟨hqe3⟩,⟨hin4⟩,⟨by simp only[nc] at *;omega⟩,⟨hnn0⟩,⟨hqe3⟩,⟨⟨by simp only[nc] at *;omega⟩,trivial⟩,⟨hqe3⟩,⟨hqe3⟩,⟨hin4⟩,⟨by simp only[nc] at *;omega⟩,⟨hin4⟩,⟨by simp only[nc] at *;omega⟩,?_⟩
       refine Cv.fold ([15,16,17]++[76,77,78,79,80,81,82,83,84,85,86,87,88,89,90,91,92,93,94,95,96,97,98,99,100,101,102,103,104,105,106,107,108,109,110,111,112,113,114,115,116,117,118,119,120]) 11 [5] (by exact Nat.le_refl _) (by exact Nat.le_of_ble_eq_true rfl) (by rfl) (by cbv) ?_
       intro js;refine⟨(_,_,_,_),?_,js,rfl⟩
       refine⟨⟨q3+1,hk4,by omega,hb4.symm,hs4.symm,hxl4,hxg4⟩,?_⟩
       show N-k4.toNat<N-k3.toNat
       simp only[nc] at *;omega
    ·rename_i hlt2;have hqe:q<Hn:=by rw[qc,ko] at hlt2;simp only[nc] at *;omega
     have hpq:=hpos (by simp only[nc] at *;omega) q;have hpq1:=hpos (by simp only[nc] at *;omega) (q+1);obtain⟨hst0,hst1⟩:=hsb (PO q);obtain⟨mm,hmm,hmm0⟩:=hhit _ hst0 hst1;have hgrow:vgd row q=row.getD q 0:=by simp only[qgd]
     have hlr:vln row=Hn:=by simp only[qln,hrowl]
     have htq:vtoN ix=q:=by rw[hix];exact hto q
     have hta:vtoN a=(PO q).toNat:=by rw[ha,qtoN]
     have hin1:0≤ix∧ix<(rl:Int):=by simp only[nc] at *;omega
     have hin2:0≤a∧a<(N:Int):=by simp only[nc] at *;omega
     have hinN:(PO q).toNat<N:=by simp only[nc] at *;omega
     obtain⟨q1,hq1⟩:∃q1:Int,q1=((q+1:Nat):Int):=⟨_,rfl⟩;have ei:vb .add .i64 ix 1=q1:=by simp only[nc] at *;rw[qb,kh (by omega) (by omega)];omega
     have ec:vb .add .i64 cnt 1=q1:=by simp only[nc] at *;rw[qb,kh (by omega) (by omega)];omega
     have eS:∀x,0≤x→x<size→vb .rem .i64 (vb .add .i64 (vb .add .i64 (vb .add .i64 x (vb .quo .i64 size 2)) (vb .quo .i64 size 8)) 3) size=ST x:=by
      intro x h0 h1;have e1:vb .quo .i64 size 2=size / 2:=by rw[qb,j6 (by omega) (by omega) (by omega)]
      have e2:vb .quo .i64 size 8=size / 8:=by rw[qb,j6 (by omega) (by omega) (by omega)]
      have e3:vb .add .i64 x (size / 2)=x+size / 2:=by rw[qb,kh (by omega) (by omega)]
      have e4:vb .add .i64 (x+size / 2) (size / 8)=x+size / 2+size / 8:=by rw[qb,kh (by omega) (by omega)]
      have e5:vb .add .i64 (x+size / 2+size / 8) 3=x+size / 2+size / 8+3:=by rw[qb,kh (by omega) (by omega)]
      rw[e1,e2,hstd,e3,e4,e5,qb,kcD (by omega)]
     have eSa:=eS a (by omega) (by omega);cbv;refine kaQ hw hm (by rfl) ?_
     cbv;rw[htq,hadd0,hta];refine⟨⟨hin1⟩,⟨by omega⟩,⟨by omega⟩,⟨hin2⟩,⟨hinN⟩,?_⟩
     intro js2;rw[hgrow,kgF,ei];have hPLq:q6 sy2 (PO q).toNat (row.getD q 0)=PL (q+1):=by rw[hpls,hsy2]
     rw[hPLq];generalize hsy3:PL (q+1)=sy3 at *;have hnb2:vnotB true=false:=hnb;cbv;rw[hnb2];cbv;rw[eSa];generalize hSTa:ST a=sta at *;refine⟨⟨by omega⟩,?_⟩
     refine kv (α:=Nat×Int) [22,23,24,25,26,27,28,29,30,31,32,33,34,35,36] [5] (fun(nn,a)=>[(4,.int .i64 a)]) (fun _=>[])
      (fun(nn,a)=>∃m,SK nn a=PO (q+1)∧qU size m a=0∧m≤nn∧0≤a∧a<size) (fun(nn,a)=>nn) hw hm ?_ ?_
     ·refine Cv.fold [22,23,24,25,26,27,28,29,30,31,32,33,34,35,36] 11 [5] (by exact Nat.le_refl _) (by exact Nat.le_of_ble_eq_true rfl) (by rfl) (by cbv) ?_
      intro js;refine⟨(5000,_),?_,js,rfl⟩
      rw[←ha,hSTa] at hst0 hst1 hmm0;exact⟨mm,by rw[hps,←ha,hSTa],hmm0,by omega,hst0,hst1⟩
     ·rintro⟨nn,a2⟩ js ⟨m2,hSK,hit,hm2,ha0,ha1⟩;have eS2:=eS a2 ha0 ha1;cbv;split
      rotate_left
      ·rename_i hge;rw[qc,k7] at hge;have hh1:SK nn a2=a2:=hsk2 (by omega);cbv;rw[ec];refine Cv.fold [7,8,9,10,11,12,13,14,15,16,17,18,19,20,21,22,23,24,25,26,27,28,29,30,31,32,33,34,35,36,37] 11 [5] (by exact Nat.le_refl _) (by exact Nat.le_of_ble_eq_true rfl) (by rfl) (by cbv) ?_
       intro js;refine⟨(_,_,_,_),?_,js,rfl⟩
       refine⟨⟨q+1,hq1,by omega,hq1,by rw[←hSK,hh1],hsy3.symm⟩,?_⟩
       show Hn-q1.toNat<Hn-cnt.toNat
       simp only[nc] at *;omega
      ·rename_i hge;rw[qc,jP] at hge;obtain⟨n3,m3,hn3,hm3,hsk,hit3⟩:=hsk1 (a:=a2) (n:=nn) (m:=m2) (by simp only[nc] at *;omega) (by omega) hit hm2;obtain⟨hsb2,hsb3⟩:=hsb a2;cbv;generalize hhz:vc .eql high 0=hz;have hhz2:hz=false:=by
        cases hz with
        |false=>rfl
        |true=>rw[qc,kJ] at hhz;simp only[nc] at *;omega
       rw[hhz2];cbv;rw[eS2];refine⟨⟨by omega⟩,?_⟩
       refine Cv.fold [22,23,24,25,26,27,28,29,30,31,32,33,34,35,36] 11 [5] (by exact Nat.le_refl _) (by exact Nat.le_of_ble_eq_true rfl) (by rfl) (by cbv) ?_
       intro js;refine⟨(n3,_),?_,js,rfl⟩
       refine⟨⟨m3,by rw[←hsk];exact hSK,hit3,by omega,hsb2,hsb3⟩,?_⟩
       show n3<nn
       omega
  ·rename_i hlt;have hlt:i<n:=by rw[qc,ko] at hlt;simp only[qofN] at hlt;simp only[nc] at *;omega
   have hti:vtoN k=i:=by rw[hk];exact hto i
   have hinR:0≤k∧k<(n:Int):=by simp only[nc] at *;omega
   have hin256:0≤k∧k<((256:Nat):Int):=by simp only[nc] at *;omega
   have hln:vln xs=256:=by rw[qln];exact hxl
   have h16:=hx16 i hlt;have hpc:=hparts _ h16;have hgi:=hgx i hlt;have hlti:i<256:=by omega
   have ew:vw .u8 k=k:=by rw[qw];simp only[nc] at *;exact wrap_u8 (by omega) (by omega)
   have ek:vb .add .i64 k 1=((i+1:Nat):Int):=by simp only[nc] at *;rw[qb,kh (by omega) (by omega)];omega
   have hmu:n-((i+1:Nat):Int).toNat<n-k.toNat:=by rw[hk];simp only[nc] at *;omega
   have hn1:=hneg (i+1);have hn0:=hneg i;have hnd:jx l (i+1)=jx l i+(if l.getD i 0<0 then 1 else 0):=rfl;have hsd:kaC l size (i+1)=(if l.getD i 0<0 then q6 (kaC l size i) (size-jx l (i+1)).toNat i else kaC l size i):=rfl;have hrd:j2 l (i+1)=j2 l i++List.replicate (l.getD i 0).toNat (i:Int):=rfl;have hxg2:∀v,(∀s,(xs.set i v).getD s 0=if s=i then v else xs.getD s 0):=by
    intro v s;rw[List.getD_eq_getElem?_getD,List.getElem?_set,hxl,List.getD_eq_getElem?_getD];by_cases h:i=s
    ·subst h;simp[hlti]
    ·rw[if_neg h,if_neg (fun e=>h e.symm)]
   have hxgn:∀s,(xs.set i (km (l.getD i 0))).getD s 0=if s<i+1 then km (l.getD s 0) else 0:=by
    intro s;rw[hxg2,hxg];by_cases h:s=i
    ·subst h;rw[if_pos rfl,if_pos (by omega)]
    ·rw[if_neg h];by_cases h2:s<i
     ·rw[if_pos h2,if_pos (by omega)]
     ·rw[if_neg h2,if_neg (by omega)]
   have hvst:∀v,vst xs i v=xs.set i v:=fun v=>by rw[qst]
   have hrowl:=hrl i (by omega);have hrowl1:=hrl (i+1) (by omega);have htki:=htk (i+1);have htk0:=htk i;clear hrl htk hright hlen;cbv;rw[hti,hadd0,hvgd];generalize hci:l.getD i 0=ci at *;generalize hpp:km ci=pc at *;refine⟨⟨hinR⟩,⟨by omega⟩,⟨by omega⟩,?_⟩
   refine ka (ρ:=[]) hpc ⟨by rfl,by rfl,by rfl,by cbv;exact⟨fun _=>rfl,trivial⟩⟩ ?_
   rintro v H R js2 ⟨rfl,rfl,rfl⟩;cbv;rw[hti,hvst];have hx2l:(xs.set i pc).length=256:=by rw[List.length_set];exact hxl
   generalize hxs2:xs.set i pc=xs2 at *;generalize hz:vc .lss ci 0=z;cases z
   rotate_left
   ·rw[qc,ko] at hz;rw[if_pos hz] at hnd hsd;have eh:vb .sub .i64 high 1=size-jx l (i+1):=by rw[qb,ku (by omega) (by omega)];omega
    have ht0:vtoN (size-jx l (i+1))=(size-jx l (i+1)).toNat:=by simp only[qtoN]
    generalize hh2:size-jx l (i+1)=high2 at *;generalize hk2:((i+1:Nat):Int)=k2 at *;generalize hh2n:high2.toNat=h2n at *;cbv;rw[eh,ht0,ew,kgF,ek];generalize hsy2:q6 sy h2n k=sy2 at *;refine⟨fun _=>rfl,⟨hin256⟩,⟨by omega⟩,⟨by simp only[nc] at *;omega⟩,⟨by simp only[nc] at *;omega⟩,?_⟩
    refine Cv.fold ([11,12]++[31,32,33,34,35,36,37,38,39,40,41,42,43,44,45,46,47,48,49,50,51,52,53,54,55,56,57,58]) 6 [5] (by exact Nat.le_refl _) (by exact Nat.le_of_ble_eq_true rfl) (by rfl) (by cbv) ?_
    intro js;refine⟨(_,_,_,_,_,_,_),?_,js,rfl⟩
    refine⟨⟨i+1,by first|exact hk2.symm|rfl,hlt,hh2.symm,?_,?_,hrl1,hx2l,hxgn⟩,hmu⟩
    ·rw[hsd,←hsy2,hsy,hk];try rfl
    ·rw[hrd,hrow];have:ci.toNat=0:=by omega
     rw[this];simp
   ·rw [qc,kb] at hz
    rw[if_neg hz] at hnd hsd;obtain⟨q,hq⟩:∃q:Nat,ci=q:=⟨ci.toNat,by omega⟩;have hci15:ci≤32767:=h16.2;have hnr:row.length≤4096:=by rw[hrow];simp only[nc] at *;omega
    cbv;refine⟨fun _=>rfl,⟨hin256⟩,⟨by omega⟩,?_⟩
    refine kv (α:=Int×List Int×Nat×Nat) [51,52,53,54,55,56,57] [5]
     (fun(j,row,rl,c)=>[(50,.int .i16 j)])
     (fun(j,row,rl,c)=>[(3,.one 25 [.slice 5 .z 1 rl c]),(5,.buf 5 .u8 row c)])
     (fun(j,row,rl,c)=>∃p:Nat,j=p∧p≤q∧row=j2 l i++List.replicate p (i:Int)∧rl=row.length)
     (fun(j,row,rl,c)=>q-j.toNat) hw hm ?_ ?_
    ·refine Cv.genAt [50] [] (Cv.fold [51,52,53,54,55,56,57] 6 [5] (by exact Nat.le_refl _) (by exact Nat.le_of_ble_eq_true rfl) (by rfl) (by cbv) ?_)
     intro js;refine⟨(_,_,_,_),?_,js,rfl⟩
     exact⟨0,rfl,by omega,by simp[hrow],hrl1⟩
    ·rintro⟨j,row2,rl2,c2⟩ js ⟨p,hj,hpq,hrow2,hrl2⟩;have hl2:row2.length≤40000:=by
      rw[hrow2,List.length_append,List.length_replicate,←hrow];simp only[nc] at *;omega
     have hjw:vb .add .i16 j 1=((p+1:Nat):Int)∨p=q:=by
      by_cases h:p=q
      ·exact .inr h
      ·refine .inl ?_
       rw[qb];show IntKind.i16.wrap (j+1)=_
       simp only[nc] at *;simp[IntKind.wrap,IntKind.bits,IntKind.signed]
       omega
     cbv;split
     rotate_left
     ·rename_i hlt2;have hpe:p=q:=by rw[qc,kb] at hlt2;simp only[nc] at *;omega
      cbv;rw[ek];generalize hk2:((i+1:Nat):Int)=k2 at *;refine Cv.fold ([11,12]++[31,32,33,34,35,36,37,38,39,40,41,42,43,44,45,46,47,48,49,50,51,52,53,54,55,56,57,58]) 6 [5] (by exact Nat.le_refl _) (by exact Nat.le_of_ble_eq_true rfl) (by rfl) (by cbv) ?_
      intro js;refine⟨(_,_,_,_,_,_,_),?_,js,rfl⟩
      refine⟨⟨i+1,by first|exact hk2.symm|rfl,hlt,?_,?_,?_,hrl2,hx2l,hxgn⟩,hmu⟩
      ·rw[hhigh,hnd];omega
      ·rw[hsd,hsy]
      ·rw[hrd,hrow2,hpe,hq];rfl
     ·rename_i hlt2;have hpe:p<q:=by rw[qc,ko] at hlt2;simp only[nc] at *;omega
      have hjw:=hjw.resolve_right (by omega);have hsub:vsub [k] 0 1=[k]:=by simp only[qsub];rfl
      have honto:vonto row2 rl2 [k]=row2++[k]:=by rw[qonto,hrl2];simp
      have hlr:vln row2=rl2:=by simp only[qln,hrl2]
      have hl1:vln [k]=1:=by simp only[qln];rfl
      have ha1:vaddN rl2 1=rl2+1:=by simp only[qaddN]
      have ha01:vaddN 0 1=1:=by simp only[qaddN]
      have hl3:row2.length+1≤140737488355328:=by omega
      rw[←hrl2] at hl3;cbv;rw[ew];refine⟨fun _=>rfl,⟨by rw[ha01,hl1];exact Nat.le_refl _⟩,⟨by rw[hlr];exact Nat.le_refl _⟩,⟨Nat.le_refl _⟩,⟨by rw[ha1];omega⟩,fun _=>rfl,?_⟩
      intro c3 js3 hle3;cbv;rw[hsub,honto,hjw,ha1];generalize hrow3:row2++[k]=row3 at *;refine Cv.fold [51,52,53,54,55,56,57] 6 [5] (by exact Nat.le_refl _) (by exact Nat.le_of_ble_eq_true rfl) (by rfl) (by cbv) ?_
      intro js;refine⟨(_,_,_,_),?_,js,rfl⟩
      refine⟨⟨p+1,rfl,hpe,?_,?_⟩,?_⟩
      ·rw[←hrow3,hrow2,List.replicate_succ',List.append_assoc,hk];try rfl
      ·rw[←hrow3,List.length_append,hrl2];try rfl
      ·show q-((p+1:Nat):Int).toNat<q-j.toNat
       simp only[nc] at *;omega
def kO (f:Nat→Int):Nat→Int
 |0=>0
 |n+1=>kO f n+f n
theorem qX {f g:Nat→Int}:∀{n:Nat},(∀i,i<n→f i=g i)→kO f n=kO g n
 |0,_=>rfl
 |n+1,h=>by simp only[kO];rw[qX (fun i hi=>h i (by omega)),h n (by omega)]
theorem kcK {f:Nat→Int} {s:Nat} {v:Int}:∀{n:Nat},s<n→kO (fun i=>if i=s then v else f i) n=kO f n-f s+v
 |0,h=>by omega
 | n+1,h=>by
  simp only[kO];by_cases hs:s=n
  ·subst hs;rw[if_pos rfl,qX (g:=f) (fun i hi=>by rw[if_neg (by omega)])];omega
  ·rw[if_neg (by omega),kcK (by omega)];omega
theorem kdJ {f:Nat→Int}:∀{n:Nat},(∀i,i<n→0≤f i)→0≤kO f n
 |0,_=>by simp[kO]
 |n+1,h=>by
  have:=kdJ (fun i hi=>h i (by omega):∀i,i<n→0≤f i);have:=h n (by omega);simp only[kO];omega
theorem kbN {f:Nat→Int} {m:Nat}:∀{n:Nat},(∀i,i<n→0≤f i)→m≤n→kO f m≤kO f n
 |0,_,h=>by
  have:m=0:=by omega
  subst this;exact Int.le_refl _
 | n+1,h,hm=>by
  by_cases hs:m=n+1
  ·subst hs;exact Int.le_refl _
  ·have:=kbN (n:=n) (m:=m) (fun i hi=>h i (by omega)) (by omega);have:=h n (by omega);simp only[kO];omega
theorem kbq {f:Nat→Int} {n s:Nat} (h:∀i,i<n→0≤f i) (hs:s<n):f s≤kO f n:=by
 have h1:=kbN (m:=s+1) h (by omega);have h2:=kdJ (f:=f) (n:=s) (fun i hi=>h i (by omega));simp only[kO] at h1;omega
theorem kdj (l:List Int):∀i,i≤l.length→kW (l.take i)=kO (fun s=>km (l.getD s 0)) i
 |0,_=>by simp[kW,kO]
 |i+1,h=>by
  rw[jw (by omega),jK,kdj l i (by omega)];rfl
def kcL (l:List Int) (s:Nat):Int:=if l.getD s 0>0 then 1 else 0
def jW (l:List Int):Nat→Int:=kO (kcL l)
def qG (l:List Int):Nat→Int:=kO (fun s=>l.getD s 0)
def qC (l:List Int):Nat→Int
 |0=>0
 |i+1=>if l.getD i 0>0 then i else qC l i
def kgg (l:List Int) (log:Int):Prop:=l.length≤256∧5≤log∧log≤12∧1≤jW l l.length∧jW l l.length≤2^log.toNat
instance (l:List Int) (log:Int):Decidable (kgg l log):=by unfold kgg;infer_instance
theorem kcg (l:List Int):∀i,0≤jW l i∧jW l i≤i
 |0=>by simp[jW,kO]
 |i+1=>by
  have:=kcg l i;simp only[jW,kO] at *;unfold kcL at *
  split<;>(push_cast;omega)
theorem kbr (l:List Int):∀i,0≤qC l i∧qC l i≤i∧(1≤i→qC l i<i)
 |0=>by simp[qC]
 |i+1=>by
  have:=kbr l i;simp only[qC];split
  ·omega
  ·refine⟨this.1,by omega,fun _=>by omega⟩
theorem kdk (l:List Int):∀i,1≤jW l i→0<l.getD (qC l i).toNat 0
 |0,h=>by simp[jW,kO] at h
 | i+1,h=>by
  simp only[qC];split
  ·rename_i hp;simpa using hp
  ·rename_i hp;refine kdk l i ?_
   simp only[jW,kO] at *;unfold kcL at h;rw[if_neg hp] at h;unfold kcL;omega
theorem kdK (l:List Int) (hl:∀x∈l,0≤x):∀i s,s<i→qC l i<s→l.getD s 0=0
 |0,s,h,_=>by omega
 | i+1,s,h,h2=>by
  have hs:0≤l.getD s 0:=by rcases jm (l:=l) s with h|h;exact hl _ h;omega
  simp only[qC] at h2;split at h2
  ·omega
  ·rename_i hp;by_cases hsi:s=i
   ·subst hsi;omega
   ·exact kdK l hl i s (by omega) h2
def kah (l:List Int) (free all:Int) (s:Nat):Int:=if l.getD s 0=0 then 0 else l.getD s 0*free / all
def jG (l:List Int) (free all:Int) (s:Nat):Int:=if l.getD s 0=0 then 0 else 1+l.getD s 0*free / all
theorem kgh {l:List Int} {free all:Int} (hl:∀x∈l,0≤x) (hf:0≤free) (ha:0<all):∀i,0≤kO (kah l free all) i∧all*kO (kah l free all) i≤free*qG l i
 |0=>by simp[kO,qG]
 | i+1=>by
  have ih:=kgh (free:=free) (all:=all) hl hf ha i;have hs:0≤l.getD i 0:=by rcases jm (l:=l) i with h|h;exact hl _ h;omega
  simp only[qG,kO] at *;have hm:0≤kah l free all i∧all*kah l free all i≤free*l.getD i 0:=by
   unfold kah;split
   ·rename_i h;rw[h];simp
   ·have h0:0≤l.getD i 0*free:=Int.mul_nonneg hs hf;refine⟨Int.ediv_nonneg h0 (by omega),?_⟩
    rw[Int.mul_comm free];have:=Int.mul_ediv_self_le (x:=l.getD i 0*free) (k:=all) (by omega);exact this
  rw[Int.mul_add,Int.mul_add];omega
theorem kbZ {l:List Int} (h:∀x∈l,0≤x) {m:Nat}:∀n,m≤n→(∀s,m≤s→s<n→l.getD s 0=0)→qG l n=qG l m
 |0,hm,_=>by
  have:m=0:=by omega
  subst this;rfl
 | n+1,hm,hz=>by
  by_cases hs:m=n+1
  ·subst hs;rfl
  ·have:=kbZ h n (by omega) (fun s h1 h2=>hz s h1 (by omega));have h0:=hz n (by omega) (by omega);simp only[qG,kO] at *;omega
theorem kb0 {l:List Int} {m:Nat}:∀n,m≤n→(∀s,m≤s→s<n→l.getD s 0=0)→jW l n=jW l m
 |0,hm,_=>by
  have:m=0:=by omega
  subst this;rfl
 | n+1,hm,hz=>by
  by_cases hs:m=n+1
  ·subst hs;rfl
  ·have:=kb0 (l:=l) n (by omega) (fun s h1 h2=>hz s h1 (by omega));have h0:=hz n (by omega) (by omega);simp only[jW,kO] at *;unfold kcL at *
   rw[if_neg (by omega)];omega
def Fair (l c:List Int) (log:Int):Prop:=jc c log∧c.length≤l.length∧(∀x∈c,jo x)∧(∀s,s<l.length→(0<l.getD s 0↔(s<c.length∧c.getD s 0≠0))) ∧
 ∀s,0≤c.getD s 0∧(s<l.length→0<l.getD s 0→1+l.getD s 0*(2^log.toNat-jW l l.length) / qG l l.length≤c.getD s 0)
theorem kne {l out:List Int} {log free all left:Int} {best:Nat} (hl:∀x∈l,0≤x) (hab:kgg l log) (hfree:free=2^log.toNat-jW l l.length) (hall:all=qG l l.length)
  (hlen:out.length=(qC l l.length).toNat+1) (hout:∀s,s<out.length→out.getD s 0=jG l free all s) (hleft:left=free-kO (kah l free all) out.length) (hb:best<out.length) (hbp:0<l.getD best 0) :
  0≤left∧left≤free∧out.getD best 0+left≤2^log.toNat∧(0≤out.getD best 0)∧Fair l (out.set best (out.getD best 0+left)) log:=by
 obtain⟨a1,a2,a3,a4,a5⟩:=hab;have hlr:=kbr l l.length;have hl1:1≤l.length:=by
  apply Classical.byContradiction
  intro h;have:l.length=0:=by omega
  rw[this] at a4;simp[jW,kO] at a4
 have hlp:=kdk l l.length a4;have hpl:=kag ⟨a2,a3⟩;have htail:∀s,out.length≤s→s<l.length→l.getD s 0=0:=fun s h1 h2=>kdK l hl l.length s h2 (by omega)
 have hsf:qG l out.length=all:=by rw[hall];exact(kbZ hl l.length (by omega) htail).symm
 have hsn:jW l out.length=jW l l.length:=(kb0 l.length (by omega) htail).symm;have hge:∀s,0≤l.getD s 0:=fun s=>by rcases jm (l:=l) s with h|h;exact hl _ h;omega
 have hallp:0<all:=by
  have:=kbq (f:=fun s=>l.getD s 0) (n:=out.length) (s:=best) (fun i _=>hge i) hb;simp only[qG] at hsf;omega
 have hf0:0≤free:=by omega
 have hml:=kgh (free:=free) (all:=all) hl hf0 hallp out.length;rw[hsf] at hml;have hmle:kO (kah l free all) out.length≤free:=by
  apply Classical.byContradiction
  intro h;have:all*(free+1)≤all*kO (kah l free all) out.length:=Int.mul_le_mul_of_nonneg_left (by omega) (by omega);rw[Int.mul_add,Int.mul_comm all free] at this;omega
 have hsh:∀s,0≤jG l free all s∧(jG l free all s=0↔l.getD s 0=0)∧jG l free all s=kah l free all s+kcL l s:=by
  intro s;unfold jG kah kcL;split
  ·rename_i h;rw[h];simp
  ·rename_i h;have:=Int.ediv_nonneg (Int.mul_nonneg (hge s) hf0) (b:=all) (by omega);have:=hge s;refine⟨by omega,⟨fun h=>by omega,fun h2=>absurd h2 h⟩,?_⟩
   rw[if_pos (by omega)];omega
 have hsum:kO (jG l free all) out.length=kO (kah l free all) out.length+jW l out.length:=by
  have:∀n,kO (jG l free all) n=kO (kah l free all) n+jW l n:=by
   intro n;induction n with
   |zero=>simp[kO,jW]
   |succ n ih=>
    have:=(hsh n).2.2;simp only[kO,jW] at *;omega
  exact this _
 have hone:=kbq (f:=jG l free all) (n:=out.length) (s:=best) (fun i _=>(hsh i).1) hb;have hob:=hout best hb;have hlenset:(out.set best (out.getD best 0+left)).length=out.length:=List.length_set;have hget:∀s,s<out.length→(out.set best (out.getD best 0+left)).getD s 0=if s=best then jG l free all best+left else jG l free all s:=by
  intro s hs;rw[List.getD_eq_getElem?_getD,List.getElem?_set];by_cases h:best=s
  ·subst h;rw[if_pos rfl,if_pos hb,if_pos rfl,hob];rfl
  ·rw[if_neg h,if_neg (by omega),←List.getD_eq_getElem?_getD,hout s hs]
 have hne:∀s,s<out.length→0≤(out.set best (out.getD best 0+left)).getD s 0∧((out.set best (out.getD best 0+left)).getD s 0=0↔l.getD s 0=0):=by
  intro s hs;rw[hget s hs];have:=hsh s;split
  ·rename_i h;subst h
   have h2:jG l free all s≠0:=fun h=>by have:=(hsh s).2.1.1 h;omega
   exact⟨by omega,⟨fun h=>by omega,fun h=>by omega⟩⟩
  ·exact⟨this.1,this.2.1⟩
 generalize hcc:out.set best (out.getD best 0+left)=c at *;have hpart:∀x:Int,0≤x→km x=x:=fun x h=>by unfold km;rw[if_neg (by omega)]
 have hmemc:∀x∈c,∃s,s<out.length∧c.getD s 0=x:=by
  intro x hx;obtain⟨s,hs,rfl⟩:=List.mem_iff_getElem.1 hx;exact⟨s,by omega,by rw[List.getD_eq_getElem?_getD,List.getElem?_eq_getElem hs];rfl⟩
 have hsc:kW c=2^log.toNat:=by
  have h1:=kdj c c.length (Nat.le_refl _);rw[List.take_length,hlenset] at h1;rw[h1,qX (g:=fun i=>if i=best then jG l free all best+left else jG l free all i) (fun i hi=>by rw[hpart _ (hne i hi).1,hget i hi]),kcK hb,hsum];omega
 have hle:∀s,s<out.length→c.getD s 0≤2^log.toNat:=by
  intro s hs;have h1:=kdj c c.length (Nat.le_refl _);rw[List.take_length,hlenset,hsc] at h1;have:=kbq (f:=fun s=>km (c.getD s 0)) (n:=out.length) (s:=s) (fun i hi=>by show 0≤km _;rw[hpart _ (hne i hi).1];exact(hne i hi).1) hs;rw[←h1] at this;have e:km (c.getD s 0)=c.getD s 0:=hpart _ (hne s hs).1;omega
 have hsb:=(hsh best).1;refine⟨by omega,by omega,by omega,by omega,⟨a2,a3,by omega,by omega,?_,?_,hsc⟩,by omega,?_,?_,?_⟩
 ·rw[hlenset,hlen];have:=(hne (qC l l.length).toNat (by omega)).2;simp only[Nat.add_sub_cancel];intro h;have:=this.1 h;omega
 ·intro x hx;obtain⟨s,hs,rfl⟩:=hmemc x hx;have:=(hne s hs).1;omega
 ·intro x hx;obtain⟨s,hs,rfl⟩:=hmemc x hx;have:=(hne s hs).1;have:=hle s hs;unfold jo;omega
 ·intro s hs;by_cases h:s<out.length
  ·have:=(hne s h).2;have:=hge s;constructor
   ·intro h2;exact⟨by omega,fun h3=>by omega⟩
   ·rintro⟨_,h2⟩;apply Classical.byContradiction
    intro h3;exact h2 (by omega)
  ·have:=htail s (by omega) hs;constructor
   ·intro h2;omega
   ·rintro⟨h2,_⟩;omega
 ·intro s;refine⟨?_,fun hs hp=>?_⟩
  ·by_cases h:s<out.length
   ·exact(hne s h).1
   ·rw[List.getD_eq_getElem?_getD,List.getElem?_eq_none (by omega)];exact Int.le_refl _
  ·by_cases h:s<out.length
   ·have e:jG l free all s=1+l.getD s 0*free / all:=by unfold jG;rw[if_neg (by omega)]
    rw[hget s h,←hfree,←hall,←e];split
    ·rename_i hsb;subst hsb;omega
    ·exact Int.le_refl _
   ·exact absurd (htail s (by omega) hs) (by omega)
set_option maxRecDepth 10000
set_option maxHeartbeats 40000000
theorem kmh {x:Int} (h0:2≤x) (h:x≤4097):2≤kB x∧kB x≤13:=by
 have h1:=kaW (x:=x) (n:=13) (by omega) (by omega);obtain⟨k,h2,h3,h4⟩:=jA (x:=x) (by omega);refine⟨?_,by omega⟩
 apply Classical.byContradiction
 intro hc;have:k=0:=by omega
 subst this;omega
def zr:Nat→List Int
 |n+3=>kr 3 2++zr n
 |n=>kr n 2
theorem khM {n:Nat} (h:n<3):zr n=kr n 2:=by
 have:n=0∨n=1∨n=2:=by omega
 rcases this with rfl|rfl|rfl<;>rfl
theorem kdl (l:List Int) (left:Int):∀(n k i:Nat),k<3→i+n<l.length→(∀j,j<n→l.getD (i+j) 0=0)→l.getD (i+n) 0≠0 →
  wgo (some k) (l.drop i) left=zr (k+n)++wgo none (l.drop (i+n)) left
 |0,k,i,hk,hi,_,hne=>by
  simp only[Nat.add_zero] at hne hi ⊢
  rw[khM hk,kbM hi,wgo,if_neg hne,wgo,if_neg hne]
 | n+1,k,i,hk,hi,hz,hne=>by
  have h0:=hz 0 (by omega);rw[Nat.add_zero] at h0;have hz':∀j,j<n→l.getD (i+1+j) 0=0:=fun j hj=>by have:=hz (j+1) (by omega);rw[show i+1+j=i+(j+1) by omega];exact this
  have hne':l.getD (i+1+n) 0≠0:=by rw[show i+1+n=i+(n+1) by omega];exact hne
  rw[kbM (by omega),wgo,if_pos h0];have e:i+(n+1)=i+1+n:=by omega
  by_cases h2:k=2
  ·subst h2;rw[if_pos rfl,kdl l left n 0 (i+1) (by omega) (by omega) hz' hne',e,show 2+(n+1)=n+3 by omega,zr,List.append_assoc,Nat.zero_add]
  ·rw[if_neg h2,kdl l left n (k+1) (i+1) (by omega) (by omega) hz' hne',e,show k+(n+1)=k+1+n by omega]
theorem khN (v most:Int):∀b∈ka5 v most,kT b:=by
 unfold ka5;split
 ·exact kX _ _
 ·split<;>exact kX _ _
theorem kcM:∀(l:List Int) (o:Option Nat) (left:Int),∀b∈wgo o l left,kT b
 |[],o,left,b,h=>by cases o<;>simp[wgo] at h
 | c::l,none,left,b,h=>by
  simp only[wgo] at h;split at h
  ·simp at h
  ·rcases List.mem_append.1 h with h|h
   ·exact khN _ _ b h
   ·exact kcM l _ _ b h
 | c :: l,some k,left,b,h=>by
  simp only[wgo] at h;split at h
  ·split at h
   ·rcases List.mem_append.1 h with h|h
    ·exact kX _ _ b h
    ·exact kcM l _ _ b h
   ·exact kcM l _ _ b h
  ·rcases List.mem_append.1 h with h|h
   ·exact kX _ _ b h
   ·split at h
    ·simp at h
    ·rcases List.mem_append.1 h with h|h
     ·exact khN _ _ b h
     ·exact kcM l _ _ b h
theorem kfG (l:List Int) (log:Int):∀b∈kZ l log,kT b:=by
 intro b h;rcases List.mem_append.1 h with h|h
 ·exact kX _ _ b h
 ·exact kcM l _ _ b h
theorem kkW (l:List Int) (log:Int) (cap:Nat) (hl:∀c∈l,jo c) (hlog : -9223372036854775808≤log∧log≤9223372036854775807) (hR:¬jc l log) :
  Con Try.prog 66 [.slice 0 .z 1 l.length cap,.int .i64 log] [.ro .i16 l] (fun v H R=>R=[]∧v=.tup [.val (.slice none 0 0),.int .i64 70]∧H=[.ro .i16 l]):=by
 have hright:=kdi l log cap hl hlog;rw[show decide (jc l log)=false by simp[hR]] at hright;refine kw (kl kD koG ?_)
 intro _ _ _ _ _ _ _ _ _ _ _ _ _ _ _ _ _ _ _ vnotB _ _ _ _ _ _ _ _ _ _ _ _ _ _ _ _ _ _ _ _ _ qnotB _;have hm:=kD;generalize Try.prog=P at *;have hnb:vnotB false=true:=by simp only[qnotB];rfl
 generalize l.length=n at *;cbv;refine ka (ρ:=[(0,.z)]) hright ⟨by rfl,by rfl,by rfl,by cbv;exact⟨kd _,trivial⟩⟩ ?_
 rintro v H R js ⟨rfl,rfl,rfl⟩;cbv;rw[hnb];cbv
def orb (size:Int) (j:Nat):Int:=(j*(size / 2+size / 8+3)) % size
abbrev kch (size:Int):Prop:=size=32∨size=64∨size=128∨size=256∨size=512∨size=1024∨size=2048∨size=4096
theorem khO {size:Int} (hs:kch size):∃inv:Int,(inv*(size / 2+size / 8+3)) % size=1:=by
 rcases hs with rfl|rfl|rfl|rfl|rfl|rfl|rfl|rfl
 ·exact⟨7,by decide⟩
 ·exact⟨3,by decide⟩
 ·exact⟨91,by decide⟩
 ·exact⟨11,by decide⟩
 ·exact⟨363,by decide⟩
 ·exact⟨43,by decide⟩
 ·exact⟨1451,by decide⟩
 ·exact⟨171,by decide⟩
theorem kdY {size inv:Int} (hp:0<size) (hi:(inv*(size / 2+size / 8+3)) % size=1) (j:Nat) (h:(j:Int)<size):(orb size j*inv) % size=j:=by
 unfold orb;rw[Int.mul_emod,Int.emod_emod_of_dvd _ (Int.dvd_refl _),←Int.mul_emod,Int.mul_assoc,Int.mul_comm (size / 2+size / 8+3) inv,Int.mul_emod,hi,Int.mul_one,Int.emod_emod_of_dvd _ (Int.dvd_refl _)];exact Int.emod_eq_of_lt (by omega) h
theorem kmi {size inv:Int} (hp:0<size) (hi:(inv*(size / 2+size / 8+3)) % size=1) {a:Int} (h0:0≤a) (h1:a<size):∃j:Nat,(j:Int)<size∧orb size j=a:=by
 refine⟨((a*inv) % size).toNat,?_,?_⟩
 ·have:=Int.emod_lt_of_pos (a*inv) hp;have:=Int.emod_nonneg (a*inv) (by omega:size≠0);omega
 ·unfold orb;rw[Int.toNat_of_nonneg (Int.emod_nonneg _ (by omega)),Int.mul_emod,Int.emod_emod_of_dvd _ (Int.dvd_refl _),←Int.mul_emod,Int.mul_assoc,Int.mul_emod,hi,Int.mul_one,Int.emod_emod_of_dvd _ (Int.dvd_refl _)];exact Int.emod_eq_of_lt h0 h1
theorem kcN {size:Int} (j:Nat):stepT size (orb size j)=orb size (j+1):=by
 unfold stepT orb;rw[Int.add_assoc,Int.add_assoc,Int.emod_add_emod];congr 1
 push_cast
 rw[Int.add_mul];omega
def ke3 (size high:Int):Nat→Int:=kO (fun j=>if orb size j<high then 1 else 0)
theorem ki3 {n s:Nat} (h:s<n):kO (fun i=>if i=s then 1 else 0) n=1:=by
 rw[kcK (f:=fun _=>0) h];have:∀n,kO (fun _=>0) n=0:=by
  intro n;induction n with
  |zero=>rfl
  |succ n ih=>simp only[kO];omega
 rw[this];rfl
theorem kmj {size:Int} (hs:kch size):∀(h:Nat),(h:Int)≤size→ke3 size h size.toNat=h:=by
 obtain⟨inv,hi⟩:=khO hs;have hp:0<size:=by omega
 intro h;induction h with
 | zero=>
  intro _;unfold ke3;have:∀n,kO (fun j=>if orb size j<((0:Nat):Int) then 1 else 0) n=0:=by
   intro n;induction n with
   |zero=>rfl
   |succ n ih=>
    have:=Int.emod_nonneg (n*(size / 2+size / 8+3)) (by omega:size≠0);simp only[kO];rw[ih,if_neg (by unfold orb;omega)];rfl
  rw[this];rfl
 | succ h ih=>
  intro hle;have ih:=ih (by omega);obtain⟨j0,hj0,hj1⟩:=kmi hp hi (a:=h) (by omega) (by omega);have hsplit:∀n,kO (fun j=>if orb size j<((h+1:Nat):Int) then 1 else 0) n=kO (fun j=>if orb size j<(h:Int) then 1 else 0) n+kO (fun j=>if orb size j=(h:Int) then 1 else 0) n:=by
   intro n;induction n with
   |zero=>rfl
   | succ n ih=>
    simp only[kO];rw[ih];by_cases h1:orb size n<(h:Int)
    ·rw[if_pos h1,if_pos (by omega),if_neg (by omega)];omega
    ·by_cases h2:orb size n=(h:Int)
     ·rw[if_neg h1,if_pos (by omega),if_pos h2];omega
     ·rw[if_neg h1,if_neg (by omega),if_neg h2];omega
  unfold ke3 at *
  rw[hsplit,ih,qX (g:=fun j=>if j=j0 then 1 else 0) (fun j hj=>?_),ki3 (by omega)]
  ·push_cast;rfl
  ·by_cases he:j=j0
   ·subst he;rw[if_pos hj1,if_pos rfl]
   ·rw[if_neg he,if_neg (fun e=>he ?_)];have h1:=kdY hp hi j (by omega);have h2:=kdY hp hi j0 hj0;rw[e] at h1;rw[hj1] at h2;omega
theorem khP {size high:Int}:∀(n m:Nat) (hm:∃d,d≤n∧orb size (m+d)<high),∃m',m≤m'∧j9 size high n (orb size m)=orb size m'∧orb size m'<high∧ke3 size high m'=ke3 size high m
 |0,m,⟨d,hd,h⟩=>by
  have:d=0:=by omega
  subst this;exact⟨m,Nat.le_refl _,rfl,h,rfl⟩
 | n+1,m,⟨d,hd,h⟩=>by
  by_cases h0:orb size m<high
  ·exact⟨m,Nat.le_refl _,by simp only[j9];rw[if_pos h0],h0,rfl⟩
  ·have hd0:d≠0:=fun e=>by subst e;exact h0 h
   obtain⟨m',h1,h2,h3,h4⟩:=khP n (m+1) ⟨d-1,by omega,by rw[show m+1+(d-1)=m+d by omega];exact h⟩;refine⟨m',by omega,by simp only[j9];rw[if_neg h0,kcN];exact h2,h3,?_⟩
   rw[h4];unfold ke3;simp only[kO];rw[if_neg h0];omega
theorem khQ {size:Int}:∀(n m:Nat),qU size n (orb size m)=orb size (m+n)
 |0,m=>rfl
 |n+1,m=>by rw[qU,kcN,khQ n (m+1)];congr 1;omega
theorem kgi {size high:Int} (hs:kch size) (hh:0<high):∀q,∃m,qm size high q=orb size m∧orb size m<high∧ke3 size high m=q
 |0=>⟨0,by simp[qm,orb],by simp[orb];exact hh,rfl⟩
 |q+1=>by
  obtain⟨m,h1,h2,h3⟩:=kgi hs hh q;have hsb:=qV (size:=size) (by omega) (qm size high q);obtain⟨d,hd,hd0⟩:=kob hs hsb.1 hsb.2;rw[h1,kcN,khQ] at hd0;obtain⟨m',h4,h5,h6,h7⟩:=khP (size:=size) (high:=high) 5000 (m+1) ⟨d,by omega,by omega⟩;refine⟨m',by simp only[qm,kmg];rw[h1,kcN];exact h5,h6,?_⟩
  rw[h7];unfold ke3 at *
  simp only[kO];rw[if_pos h2,h3];push_cast;rfl
theorem knf {size:Int} {h:Nat} (hs:kch size) (hle:(h:Int)≤size) {p q:Nat} (hp:p<h) (hq:q<h) (he:qm size h p=qm size h q):p=q:=by
 obtain⟨inv,hi⟩:=khO hs;obtain⟨m,a1,a2,a3⟩:=kgi hs (by omega:(0:Int)<h) p;obtain⟨n,b1,b2,b3⟩:=kgi hs (by omega:(0:Int)<h) q;have hall:=kmj hs h hle;have hlt:∀m k:Nat,k<h→ke3 size h m=k→(m:Int)<size:=by
  intro m k hk hm;apply Classical.byContradiction
  intro hc;have:=kbN (f:=fun j=>if orb size j<(h:Int) then 1 else 0) (m:=size.toNat) (n:=m) (fun i _=>by split<;>omega) (by omega);unfold ke3 at hall hm;omega
 have h1:=kdY (by omega) hi m (hlt m p hp a3);have h2:=kdY (by omega) hi n (hlt n q hq b3);rw[←a1,he,b1] at h1;have:(m:Int)=n:=by rw[←h1,←h2]
 have:m=n:=by omega
 subst this;omega
theorem kcO {f:Nat→Int} {p:Nat} {v s:Int}:∀{N:Nat},p<N→kY (q6 f p v) s N=kY f s N-(if f p=s then 1 else 0)+(if v=s then 1 else 0):=by
 have e:∀(g:Nat→Int) N,kY g s N=kO (fun k=>if g k=s then 1 else 0) N:=by
  intro g N;induction N with
  |zero=>rfl
  |succ N ih=>simp only[kY,kO,ih]
 intro N h;rw[e,e,←kcK (f:=fun k=>if f k=s then 1 else 0) h];refine qX (fun i _=>?_)
 rw[kU];by_cases hi:i=p
 ·rw[if_pos hi,if_pos hi]
 ·rw[if_neg hi,if_neg hi]
theorem keR {c s:Int} (h:c≠s):∀N,kY (fun _=>c) s N=0
 |0=>rfl
 |N+1=>by simp only[kY];rw[keR h N,if_neg h];rfl
theorem khR {c:Int}:∀N,kY (fun _=>c) c N=N
 |0=>rfl
 |N+1=>by simp only[kY];rw[khR N];simp
theorem keS {f g:Nat→Int} {s:Int}:∀{N:Nat},(∀k,k<N→f k=g k)→kY f s N=kY g s N
 |0,_=>rfl
 |N+1,h=>by simp only[kY];rw[keS (fun k hk=>h k (by omega)),h N (by omega)]
theorem kfH {f:Nat→Int} {s:Int}:∀{N:Nat},kY f s N=0→∀k,k<N→f k≠s
 |0,_,k,hk=>by omega
 | N+1,h,k,hk=>by
  have h0:=kaX f s N;simp only[kY] at h;by_cases he:f N=s
  ·rw[if_pos he] at h;omega
  ·rw[if_neg he] at h;by_cases hkn:k=N
   ·subst hkn;exact he
   ·exact kfH (N:=N) (by omega) k (by omega)
def kaD (l:List Int) (size:Int):Nat→Nat→Int
 |0=>fun _ => -1
 |i+1=>if l.getD i 0<0 then q6 (kaD l size i) (size-jx l (i+1)).toNat i else kaD l size i
theorem kdm {l:List Int} {size:Int} {N:Nat} (hN:size=N):∀i:Nat,jx l i≤size→(∀k:Nat,(k:Int)<size-jx l i→kaD l size i k = -1)∧(∀k,kaD l size i k ≠ -1→kaC l size i k=kaD l size i k) ∧
  (∀s:Nat,kY (kaD l size i) s N=if s<i∧l.getD s 0<0 then 1 else 0)∧kY (kaD l size i) (-1) N=N-jx l i
 |0,_=>by
  refine⟨fun k _=>rfl,fun k h=>absurd rfl h,fun s=>?_,?_⟩
  ·rw[if_neg (by omega)];exact keR (by omega) N
  ·simp only[kaD,jx];rw[khR];omega
 | i + 1,hle=>by
  have hd:jx l (i+1)=jx l i+(if l.getD i 0<0 then 1 else 0):=rfl;have hr:=qW l i;by_cases h:l.getD i 0<0
  ·rw[if_pos h] at hd;obtain⟨h1,h2,h3,h4⟩:=kdm (l:=l) (size:=size) hN i (by omega);have hp:((size-jx l (i+1)).toNat:Int)=size-jx l (i+1):=Int.toNat_of_nonneg (by omega);have hpN:(size-jx l (i+1)).toNat<N:=by omega
   have hfresh:kaD l size i (size-jx l (i+1)).toNat = -1:=h1 _ (by omega);simp only[kaD,kaC];rw[if_pos h,if_pos h];refine⟨fun k hk=>?_,fun k hk=>?_,fun s=>?_,?_⟩
   ·rw[kU,if_neg (by omega)];exact h1 k (by omega)
   ·rw[kU] at hk ⊢
    rw[kU];split
    ·rfl
    ·rename_i hne;rw[if_neg hne] at hk;exact h2 k hk
   ·rw[kcO hpN,hfresh,h3];by_cases hs:s=i
    ·subst hs;rw[if_neg (by omega),if_neg (by omega),if_pos rfl,if_pos ⟨by omega,h⟩];rfl
    ·rw[if_neg (show ¬(-1:Int)=s by omega),if_neg (show ¬(i:Int)=s by omega)];by_cases hc:s<i∧l.getD s 0<0
     ·rw[if_pos hc,if_pos ⟨by omega,hc.2⟩];rfl
     ·rw[if_neg hc,if_neg (fun hh=>hc ⟨by omega,hh.2⟩)];rfl
   ·rw[kcO hpN,hfresh,h4,if_pos rfl,if_neg (by omega)];omega
  ·rw[if_neg h] at hd;obtain⟨h1,h2,h3,h4⟩:=kdm (l:=l) (size:=size) hN i (by omega);simp only[kaD,kaC];rw[if_neg h,if_neg h,hd];refine⟨fun k hk=>h1 k (by omega),h2,fun s=>?_,by rw[h4];omega⟩
   rw[h3];by_cases hc:s<i∧l.getD s 0<0
   ·rw[if_pos hc,if_pos ⟨by omega,hc.2⟩]
   ·rw[if_neg hc,if_neg];rintro⟨h5,h6⟩;by_cases hs:s=i
    ·subst hs;exact h h6
    ·exact hc ⟨by omega,h6⟩
theorem keT {l row:List Int} {size:Int} {N h n:Nat} (hs:kch size) (hN:size=N) (hh:(h:Int)=size-jx l n) (hneg:jx l n≤size):∀q:Nat,q≤h→(∀j,j<q→0≤row.getD j 0) →
  (∀k:Nat,k<h→(∀j,j<q→qm size h j≠k)→je size h row (kaD l size n) q k = -1)∧(∀k,je size h row (kaD l size n) q k ≠ -1→je size h row (kaC l size n) q k=je size h row (kaD l size n) q k) ∧
  (∀s:Nat,kY (je size h row (kaD l size n) q) s N=(if s<n∧l.getD s 0<0 then 1 else 0)+kY (fun j=>row.getD j 0) s q)∧kY (je size h row (kaD l size n) q) (-1) N=N-jx l n-q
 | 0,_,_=>by
  obtain⟨h1,h2,h3,h4⟩:=kdm (l:=l) (size:=size) hN n hneg;refine⟨fun k hk _=>h1 k (by omega),h2,fun s=>?_,?_⟩
  ·show kY (kaD l size n) s N=_
   rw[h3];simp[kY]
  ·show kY (kaD l size n) (-1) N=_
   rw[h4];simp
 | q+1,hq,hrow=>by
  have hr:=qW l n;obtain⟨h1,h2,h3,h4⟩:=keT (row:=row) (h:=h) (n:=n) hs hN hh hneg q (by omega) (fun j hj=>hrow j (by omega));have hpr:=kcf (size:=size) (high:=h) hs (by omega) q;have hp:((qm size h q).toNat:Int)=qm size h q:=Int.toNat_of_nonneg hpr.1;have hpN:(qm size h q).toNat<N:=by omega
  have hfresh:je size h row (kaD l size n) q (qm size h q).toNat = -1:=by
   refine h1 _ (by omega) (fun j hj e=>?_)
   have:=knf (size:=size) (h:=h) hs (by omega) (p:=j) (q:=q) (by omega) (by omega) (by omega);omega
  have hrq:=hrow q (by omega);simp only[je];refine⟨fun k hk hj=>?_,fun k hk=>?_,fun s=>?_,?_⟩
  ·rw[kU,if_neg (fun e=>hj q (by omega) (by omega))];exact h1 k hk (fun j hj'=>hj j (by omega))
  ·rw[kU] at hk ⊢
   rw[kU];split
   ·rfl
   ·rename_i hne;rw[if_neg hne] at hk;exact h2 k hk
  ·rw[kcO hpN,hfresh,h3,if_neg (show ¬(-1:Int)=s by omega)];simp only[kY];omega
  ·rw[kcO hpN,hfresh,h4,if_pos rfl,if_neg (show ¬row.getD q 0 = -1 by omega)];push_cast;omega
theorem khS (row:List Int) (s:Int):∀i,i≤row.length→kY (fun j=>row.getD j 0) s i=(row.take i).count s
 |0,_=>by simp[kY]
 |i+1,h=>by
  simp only[kY];rw[khS row s i (by omega),jw (by omega),List.count_append,List.count_singleton];by_cases he:row.getD i 0=s
  ·rw[if_pos he,if_pos (beq_iff_eq.mpr he)];push_cast;rfl
  ·rw[if_neg he,if_neg (fun h=>he (beq_iff_eq.mp h))];push_cast;rfl
theorem kfI (l:List Int) (s:Nat):∀i,(j2 l i).count (s:Int)=if s<i then(l.getD s 0).toNat else 0
 |0=>by simp[j2]
 | i+1=>by
  rw[j2,List.count_append,kfI l s i,List.count_replicate];by_cases h:s=i
  ·subst h;simp
  ·have hb:(((i:Nat):Int)==((s:Nat):Int))=false:=by simp;omega
   have hb':(((s:Nat):Int)==((i:Nat):Int))=false:=by simp;omega
   rw[if_neg (show ¬((((i:Nat):Int)==((s:Nat):Int))=true) by rw[hb];simp)];by_cases h2:s<i
   ·rw[if_pos h2,if_pos (show s<i+1 by omega)];rfl
   ·rw[if_neg h2,if_neg (show ¬s<i+1 by omega)]
theorem kbO {l:List Int} {size:Int} {N:Nat} (hs:kch size) (hN:size=N) (h1:∀c∈l,-1≤c) (hsum:kW l=size) (s:Nat) (hsl:s<l.length):kY (jf l size) s N=km (l.getD s 0):=by
 have hrl:=kbp l h1 l.length (Nat.le_refl _);rw[List.take_length,hsum] at hrl;have hr:=qW l l.length;obtain⟨h,hh⟩:∃h:Nat,(h:Int)=size-jx l l.length:=⟨(j2 l l.length).length,hrl⟩;have hrh:(j2 l l.length).length=h:=by omega
 have hrow:∀j,j<h→0≤(j2 l l.length).getD j 0:=fun j _=>by
  rcases jm (l:=j2 l l.length) j with hm|hm
  ·exact(keP l _ _ hm).1
  ·omega
 obtain⟨p1,p2,p3,p4⟩:=keT (l:=l) (row:=j2 l l.length) (n:=l.length) hs hN hh (by omega) h (Nat.le_refl _) hrow;have hnone:=kfH (show kY (je size h (j2 l l.length) (kaD l size l.length) h) (-1) N=0 by rw[p4];omega);have hsy:jf l size=je size h (j2 l l.length) (kaC l size l.length) h:=by
  unfold jf;rw[←hh];simp
 rw[hsy,keS (fun k hk=>p2 k (hnone k hk)),p3,khS _ _ _ (by omega),←hrh,List.take_length,kfI,if_pos hsl];have hc : -1≤l.getD s 0:=h1 _ (by rw[List.getD_eq_getElem?_getD,List.getElem?_eq_getElem hsl];exact List.getElem_mem _);unfold km;by_cases hneg:l.getD s 0<0
 ·rw[if_pos ⟨hsl,hneg⟩,if_pos hneg];omega
 ·rw[if_neg (fun hh=>hneg hh.2),if_neg hneg];omega
theorem kgj {f:Nat→Int} {s:Int}:∀{N:Nat} {c:Int},0≤c→c<kY f s N→∃k,k<N∧f k=s∧kY f s k=c
 |0,c,h0,h=>by simp only[kY] at h;omega
 | N+1,c,h0,h=>by
  simp only[kY] at h;by_cases hc:c<kY f s N
  ·obtain⟨k,h1,h2,h3⟩:=kgj h0 hc;exact⟨k,by omega,h2,h3⟩
  ·by_cases he:f N=s
   ·rw[if_pos he] at h;exact⟨N,by omega,he,by omega⟩
   ·rw[if_neg he] at h;omega
theorem wrap_u16 {x:Int} (h0:0≤x) (h1:x<65536):IntKind.u16.wrap x=x:=by
 simp[IntKind.wrap,IntKind.signed,IntKind.bits];omega
theorem kai {a b:Nat} (h:a≤b):(2:Int)^a≤2^b:=by exact_mod_cast Nat.pow_le_pow_right (by omega:0<2) h
theorem kgk {log x size:Int} (hlog:5≤log∧log≤12) (hs:2^log.toNat=size) (h0:1≤x) (h1:x<2*size):∃b:Nat,(b:Int)≤log∧size≤x*2^b∧(x+1)*2^b≤2*size∧bT log x=b∧kfF log size x=x*2^b-size:=by
 obtain⟨n,hn⟩:∃n:Nat,log=n:=⟨log.toNat,by omega⟩;have hsn:(2:Int)^n=size:=by rw[←hs,hn];simp
 have hle:(2:Int)^n≤2^12:=kai (by omega);obtain⟨k,k1,k2,k3⟩:=jA (x:=x) (by omega);have hkn:k≤n:=by
  apply Classical.byContradiction
  intro hc;have:=kai (a:=n+1) (b:=k) (by omega);rw[Int.pow_succ] at this;omega
 obtain⟨b,hb⟩:∃b:Nat,n=k+b:=⟨n-k,by omega⟩;have hsz:(2:Int)^k*2^b=size:=by rw[←hsn,hb,Int.pow_add]
 have hb0:(0:Int)<2^b:=Int.pow_pos (by omega);have a1:size≤x*2^b:=by rw[←hsz];exact Int.mul_le_mul_of_nonneg_right k2 (by omega)
 have a2:(x+1)*2^b≤2*size:=by
  have:(x+1)*2^b≤2^(k+1)*2^b:=Int.mul_le_mul_of_nonneg_right (by omega) (by omega);rw[Int.pow_succ,Int.mul_right_comm,hsz] at this;omega
 have a3:x*2^b<2*size:=by rw[Int.add_mul] at a2;omega
 have e1:log+1-kB x=b:=by omega
 refine⟨b,by omega,a1,a2,?_,?_⟩
 ·unfold bT;rw[e1];have:IntKind.u8.wrap b=b:=wrap_u8 (by omega) (by omega);exact this
 ·have ew:IntKind.u64.wrap (b:Int)=b:=wrap_u64 (by omega) (by omega);have es:bV .shl .i64 x b=x*2^b:=by
   show IntKind.i64.wrap (x*2^(min ((b:Int).toNat) IntKind.i64.bits))=x*2^b
   have e:min ((b:Int).toNat) IntKind.i64.bits=b:=by simp[IntKind.bits];omega
   rw[e];exact wrap_i64 (by omega) (by omega)
  unfold kfF;rw[e1,ew,es,ku (by omega) (by omega)];exact wrap_u16 (by omega) (by omega)
theorem khT {c:Int} (hc:1≤c):∀(n:Nat) (V:Int),c≤V→V<2^n→∃b:Nat,c≤V / 2^b∧V / 2^b<2*c
 |0,V,h0,h1=>by simp at h1;omega
 | n+1,V,h0,h1=>by
  by_cases h:V<2*c
  ·exact⟨0,by simpa using h0,by simpa using h⟩
  ·rw[Int.pow_succ] at h1;obtain⟨b,b1,b2⟩:=khT hc n (V / 2) (by omega) (by omega);have e:V / 2^(b+1)=V / 2 / 2^b:=by rw[Int.pow_succ,Int.mul_comm,←Int.ediv_ediv_of_nonneg (by omega)]
   exact⟨b+1,by rw[e];exact b1,by rw[e];exact b2⟩
theorem kaY {l:List Int} {log size:Int} (hR:jc l log) (hs:2^log.toNat=size):kch size:=by
 obtain⟨s,h1,h2⟩:=kjB ⟨hR.1,hR.2.1⟩;rw[h1] at hs;subst hs;exact h2
theorem kgl {l:List Int} {log size:Int} {N:Nat} (hR:jc l log) (hs:2^log.toNat=size) (hN:size=N) {k:Nat} (hk:k<N):∃b:Nat,(b:Int)≤log∧qn l log size N k=b∧0≤qa l log size N k∧qa l log size N k+2^b≤size∧1≤km (l.getD (jf l size k).toNat 0):=by
 have hsz:=kaY hR hs;obtain⟨g1,g2,g3,g4,g5,g6,g7⟩:=hR;have hr:=kce (l:=l) size (by omega) k;obtain⟨s,hsy⟩:∃s:Nat,jf l size k=s:=⟨(jf l size k).toNat,by omega⟩;have hcnt:=kbO hsz hN g6 (by rw[g7,hs]) s (by omega);have hlt:∀(f:Nat→Int) (s:Int) (N k:Nat),k<N→f k=s→kY f s k+1≤kY f s N:=by
  intro f s N;induction N with
  |zero=>intro k h;omega
  | succ N ih=>
   intro k h he;simp only[kY];by_cases hk:k=N
   ·subst hk;rw[if_pos he];omega
   ·have:=ih k (by omega) he;split<;>omega
 have h1:=hlt (jf l size) s N k hk hsy;have h2:=kaX (jf l size) s k;have h3:=qt g6 s;have hx:xT l (jf l size) k=km (l.getD s 0)+kY (jf l size) s k:=by unfold xT;rw[hsy,Int.toNat_natCast]
 obtain⟨b,b1,b2,b3,b4,b5⟩:=kgk ⟨g1,g2⟩ hs (x:=xT l (jf l size) k) (by omega) (by rw[hx];omega);refine⟨b,b1,?_,?_,?_,by rw[hsy,Int.toNat_natCast];omega⟩
 ·unfold qn;rw[if_pos hk,b4]
 ·unfold qa;rw[if_pos hk,b5];omega
 ·unfold qa;rw[if_pos hk,b5];rw[Int.add_mul] at b3;omega
theorem kmk {l:List Int} {log size:Int} {N:Nat} (hR:jc l log) (hs:2^log.toNat=size) (hN:size=N) {s:Nat} (hsl:s<l.length) (hne:l.getD s 0≠0) {v:Int} (h0:0≤v) (h1:v<size) :
  ∃k:Nat,k<N∧jf l size k=s∧qa l log size N k≤v∧v-qa l log size N k<2^(qn l log size N k).toNat:=by
 have hsz:=kaY hR hs;obtain⟨g1,g2,g3,g4,g5,g6,g7⟩:=hR;have hcnt:=kbO hsz hN g6 (by rw[g7,hs]) s hsl;have h3:=qt g6 s;have hc1 : -1≤l.getD s 0:=g6 _ (by rw[List.getD_eq_getElem?_getD,List.getElem?_eq_getElem hsl];exact List.getElem_mem _);obtain⟨c,hc⟩:∃c,c=km (l.getD s 0):=⟨_,rfl⟩;have hcp:1≤c:=by rw[hc];unfold km;split<;>omega
 have hcs:c≤size:=by omega
 obtain⟨b,b1,b2⟩:=khT hcp 14 (v+size) (by omega) (by omega);have hb0:(0:Int)<2^b:=Int.pow_pos (by omega);obtain⟨x,hx⟩:∃x,x=(v+size) / 2^b:=⟨_,rfl⟩;rw[←hx] at b1 b2;have hx1:x*2^b≤v+size:=by rw[hx];exact Int.ediv_mul_le _ (by omega)
 have hx2:v+size<(x+1)*2^b:=by rw[hx];exact Int.lt_ediv_add_one_mul_self _ hb0
 obtain⟨b',d1,d2,d3,d4,d5⟩:=kgk ⟨g1,g2⟩ hs (x:=x) (by omega) (by omega);have hbb:b'=b:=by
  apply Classical.byContradiction
  intro hne;rcases Nat.lt_or_gt_of_ne hne with hlt|hgt
  ·obtain⟨d,rfl⟩:∃d,b=b'+1+d:=⟨b-b'-1,by omega⟩;have hd:(1:Int)≤2^d:=kai (a:=0) (by omega);rw[Int.pow_add,Int.pow_succ] at hx1;have:x*(2^b'*2*2^d)=x*2^b'*2*2^d:=by simp only[Int.mul_assoc]
   have h5:x*2^b'*2*1≤x*2^b'*2*2^d:=Int.mul_le_mul_of_nonneg_left hd (by omega);omega
  ·obtain⟨d,rfl⟩:∃d,b'=b+1+d:=⟨b'-b-1,by omega⟩;have hd:(1:Int)≤2^d:=kai (a:=0) (by omega);rw[Int.pow_add,Int.pow_succ] at d3;have:(x+1)*(2^b*2*2^d)=(x+1)*2^b*2*2^d:=by simp only[Int.mul_assoc]
   have h5:(x+1)*2^b*2*1≤(x+1)*2^b*2*2^d:=Int.mul_le_mul_of_nonneg_left hd (by omega);omega
 subst hbb;obtain⟨k,k1,k2,k3⟩:=kgj (f:=jf l size) (s:=s) (N:=N) (c:=x-c) (by omega) (by rw[hcnt];omega);have hxk:xT l (jf l size) k=x:=by unfold xT;rw[k2,Int.toNat_natCast,k3];omega
 refine⟨k,k1,k2,?_,?_⟩
 ·unfold qa;rw[if_pos k1,hxk,d5];omega
 ·unfold qa qn;rw[if_pos k1,if_pos k1,hxk,d5,d4,Int.toNat_natCast];rw[Int.add_mul] at hx2;omega
inductive Enc (N:Nat) (A B C:Nat→Int):List Int→Nat→List Int→Prop
 |nil:Enc N A B C [] 0 []
 |cons {ls v bits s k}:Enc N A B C ls v bits→k<N→A k=s→C k≤v→v-C k<2^(B k).toNat→Enc N A B C (s::ls) k (bits++kr (v-C k) (B k).toNat)
def phi (v:Nat):Nat:=if v<24 then 0 else if v<48 then 1 else 2
def kap (c:Nat):Nat:=if c≤10 then(if c≤5 then(if c≤1 then 20 else if c≤2 then 16 else if c≤3 then 14 else if c≤4 then 13 else 12) else(if c≤6 then 11 else if c≤8 then 10 else 9))
 else if c≤13 then 8 else if c≤16 then 7 else if c≤21 then 6 else if c≤27 then 5 else if c≤33 then 4 else if c≤43 then 3 else if c≤55 then 2 else 1
def bbT (x:Nat):Nat:=if 64≤x then 0 else if 32≤x then 1 else if 16≤x then 2 else if 8≤x then 3 else if 4≤x then 4 else if 2≤x then 5 else 6
def kdL (a c k:Nat):Bool:=a.ble (3*k % 64)&&(3*k % 64+1).ble (a+c)
def kdR (a c:Nat):Nat→Nat
 |0=>0
 |k+1=>kdR a c k+(if kdL a c k then 1 else 0)
def ki4 (c k r:Nat):Bool:=(3*bbT (c+r)+phi k).ble (kap c+phi ((c+r)*2^bbT (c+r)-64))
def kdn (a c:Nat):Nat→Nat→Nat→Bool
 |0,_,_=>true
 |f+1,k,r=>if kdL a c k then ki4 c k r&&kdn a c f (k+1) (r+1) else kdn a c f (k+1) r
def kgm:Nat→Bool
 |0=>true
 |n+1=>(let a:=n / 64;let c:=n % 64;c.beq 0||(65).ble (a+c)||kdn a c 64 0 0)&&kgm n
set_option maxRecDepth 100000 in
theorem kkX:kgm 4096=true:=by decide +kernel
theorem keU:∀(n m:Nat),m<n→kgm n=true→(m % 64=0∨65≤m / 64+m % 64∨kdn (m / 64) (m % 64) 64 0 0=true)
 |0,m,h,_=>by omega
 | n+1,m,h,hc=>by
  rw[kgm,Bool.and_eq_true] at hc;by_cases e:m=n
  ·subst e;have h1:=hc.1;simp only[Bool.or_eq_true] at h1;rcases h1 with(h1|h1)|h1
   ·exact .inl (Nat.eq_of_beq_eq_true h1)
   ·exact .inr (.inl (Nat.le_of_ble_eq_true h1))
   ·exact .inr (.inr h1)
  ·exact keU n m (by omega) hc.2
theorem kci (a c:Nat):∀(f k r k':Nat),kdn a c f k r=true→r=kdR a c k→k≤k'→k'<k+f→kdL a c k'=true→ki4 c k' (kdR a c k')=true
 |0,k,r,k',_,_,h1,h2,_=>by omega
 | f+1,k,r,k',h,hr,h1,h2,hs=>by
  rw[kdn] at h;by_cases e:k'=k
  ·subst e;rw[if_pos hs,Bool.and_eq_true] at h;rw[←hr];exact h.1
  ·by_cases hk:kdL a c k=true
   ·rw[if_pos hk,Bool.and_eq_true] at h;exact kci a c f (k+1) (r+1) k' h.2 (by rw[kdR,if_pos hk,hr]) (by omega) (by omega) hs
   ·rw[if_neg hk] at h;exact kci a c f (k+1) r k' h (by rw[kdR,if_neg hk,hr];rfl) (by omega) (by omega) hs
theorem kkY {a c k:Nat} (hc:1≤c) (hc2:c≤63) (hac:a+c≤64) (hk:k<64) (hs:kdL a c k=true) :
  3*bbT (c+kdR a c k)+phi k≤kap c+phi ((c+kdR a c k)*2^bbT (c+kdR a c k)-64):=by
 have hm:(64*a+c) / 64=a∧(64*a+c) % 64=c:=by omega
 have h:=keU 4096 (64*a+c) (by omega) kkX;rw[hm.1,hm.2] at h;rcases h with h|h|h
 ·omega
 ·omega
 ·have:=kci a c 64 0 0 k h rfl (Nat.zero_le _) (by omega) hs;unfold ki4 at this;exact Nat.le_of_ble_eq_true this
theorem kfJ {l:List Int} (h:∀c∈l,0≤c):∀i,jx l i=0
  |0=>rfl
  | i+1=>by
    have hg:0≤l.getD i 0:=by rcases jm (l:=l) i with e|e;exact h _ e;omega
    rw[jx,kfJ h i,if_neg (by omega)];rfl
theorem kjC:∀i:Nat,qm 64 64 i=((43*i % 64:Nat):Int)
  |0=>rfl
  | i + 1=>by
    have ih:=kjC i;have hst:stepT 64 (qm 64 64 i)=((43*(i+1) % 64:Nat):Int):=by
      rw[ih];unfold stepT;omega
    show j9 64 64 5000 (stepT 64 (qm 64 64 i))=_
    rw[hst,keO (by omega)]
theorem kml (j:Nat):3*(43*j % 64) % 64=j % 64:=by omega
theorem kng (k:Nat) (h:k<64):43*(3*k % 64) % 64=k:=by omega
theorem kfK (row:List Int) (sy:Nat→Int):∀i,i≤64→∀j,j<i→je 64 64 row sy i (43*j % 64)=row.getD j 0
  |0,_,j,h=>by omega
  | i + 1,hi,j,h=>by
    rw[je,kU,kjC,Int.toNat_natCast];by_cases e:j=i
    · subst e;rw[if_pos rfl]
    · rw[if_neg (fun he=>e (by have h1:=kml j;have h2:=kml i;rw[he,h2] at h1;omega))]
      exact kfK row sy i (by omega) j (by omega)
theorem knh {l:List Int} (h:∀c∈l,0≤c) {k:Nat} (hk:k<64):jf l 64 k=(j2 l l.length).getD (3*k % 64) 0:=by
  unfold jf;rw[kfJ h];have:=kfK (j2 l l.length) (kaC l 64 l.length) 64 (Nat.le_refl _) (3*k % 64) (by omega);rw[kng k hk] at this;exact this
def jQ (l:List Int):Nat→Nat
  |0=>0
  |i+1=>jQ l i+(l.getD i 0).toNat
theorem qo (l:List Int):∀{i j:Nat},i≤j→jQ l i≤jQ l j
  | i, 0, h => by obtain rfl:i=0:=by omega
                  exact Nat.le_refl _
  | i,j+1,h=>by
    by_cases e:i=j+1
    · subst e;exact Nat.le_refl _
    · have:=qo l (i:=i) (j:=j) (by omega)
      rw[jQ];omega
theorem kcP (l:List Int):∀i,(j2 l i).length=jQ l i
  |0=>rfl
  |i+1=>by rw[j2,List.length_append,List.length_replicate,kcP l i,jQ]
theorem khU (l:List Int) {s j:Nat} (h1:jQ l s≤j) (h2:j<jQ l (s+1)):∀i,s<i→(j2 l i).getD j 0=s
  |0,h=>by omega
  | i + 1,h=>by
    rw[j2,List.getD_eq_getElem?_getD];by_cases e:s=i
    · subst e
      rw[jQ] at h2;rw[List.getElem?_append_right (by rw[kcP];exact h1),List.getElem?_replicate,if_pos (by rw[kcP];omega)];rfl
    · have hm:=qo l (i:=s+1) (j:=i) (by omega)
      rw[List.getElem?_append_left (by rw[kcP];omega),←List.getD_eq_getElem?_getD];exact khU l h1 h2 i (by omega)
theorem khV (l:List Int) {j:Nat}:∀n,j<jQ l n→∃s,s<n∧jQ l s≤j∧j<jQ l (s+1)
  |0,h=>by simp[jQ] at h
  | n + 1,h=>by
    by_cases e:j<jQ l n
    · obtain⟨s,h1,h2⟩:=khV l n e
      exact⟨s,by omega,h2⟩
    · exact⟨n,by omega,by omega,h⟩
theorem khW {l:List Int} (h:∀c∈l,0≤c):∀i,i≤l.length→(jQ l i:Int)=kW (l.take i)
  |0,_=>by simp[jQ,kW]
  | i+1,hi=>by
    have ih:=khW h i (by omega);have hm:l[i]∈l:=List.getElem_mem (by omega);have h0:=h _ hm;have e:l.take (i+1)=l.take i++[l[i]]:=by rw[List.take_succ_eq_append_getElem (by omega)]
    rw[jQ,e,jK,←ih,List.getD_eq_getElem?_getD,List.getElem?_eq_getElem (by omega)];unfold km;rw[if_neg (by omega)];simp only[Option.getD_some];omega
theorem keV {l:List Int} (hR:jc l 6) (h:∀c∈l,0≤c):jQ l l.length=64:=by
  have h1:=khW h l.length (Nat.le_refl _);rw[List.take_length,hR.2.2.2.2.2.2] at h1;have:(2:Int)^(6:Int).toNat=64:=by decide
  omega
theorem inSeg_iff {a c k:Nat}:kdL a c k=true↔a≤3*k % 64∧3*k % 64<a+c:=by
  unfold kdL;rw[Bool.and_eq_true,Nat.ble_eq,Nat.ble_eq];omega
theorem kgn {l:List Int} (hR:jc l 6) (h:∀c∈l,0≤c) {k s:Nat} (hk:k<64) (hs:s<l.length):jf l 64 k=s↔kdL (jQ l s) (l.getD s 0).toNat k=true:=by
  rw[knh h hk,inSeg_iff];obtain⟨j,hj⟩:∃j,j=3*k % 64:=⟨_,rfl⟩;rw[←hj];have hj64:j<64:=by omega
  have hback:∀t,t<l.length→jQ l t≤j→j<jQ l (t+1)→(j2 l l.length).getD j 0=t:=fun t ht h1 h2=>khU l h1 h2 l.length ht
  constructor
  · intro he
    obtain⟨t,ht,h1,h2⟩:=khV l l.length (j:=j) (by rw[keV hR h];exact hj64);have:=hback t ht h1 h2;rw[he] at this;obtain rfl:s=t:=by omega
    rw[jQ] at h2;exact⟨h1,h2⟩
  · rintro⟨h1,h2⟩
    exact hback s hs h1 (by rw[jQ];exact h2)
theorem kgo {l:List Int} (hR:jc l 6) (h:∀c∈l,0≤c) {s:Nat} (hs:s<l.length):∀k,k≤64→kY (jf l 64) s k=kdR (jQ l s) (l.getD s 0).toNat k
  |0,_=>rfl
  | k+1,hk=>by
    have ih:=kgo hR h hs k (by omega);have hi:=kgn hR h (k:=k) (by omega) hs;rw[kY,kdR,ih];by_cases e:jf l 64 k=s
    · rw[if_pos e,if_pos (hi.1 e)];push_cast;rfl
    · rw[if_neg e,if_neg (fun h=>e (hi.2 h))];simp
theorem koc {x b:Nat} (h1:64≤x*2^b) (h2:(x+1)*2^b≤128) (hb:b≤6):bbT x=b:=by
  unfold bbT;obtain rfl|rfl|rfl|rfl|rfl|rfl|rfl:b=0∨b=1∨b=2∨b=3∨b=4∨b=5∨b=6:=by omega
  all_goals simp only[Nat.reducePow] at h1 h2;(repeat' split)<;>omega
theorem phi_mono {a b:Nat} (h:a≤b):phi a≤phi b:=by unfold phi;(repeat' split)<;>omega
theorem kod (a:Nat):phi a≤2:=by unfold phi;(repeat' split)<;>omega
theorem khX {l:List Int} (hR:jc l 6) (h:∀c∈l,0≤c) {k s:Nat} (hk:k<64) (hs:jf l 64 k=s) (hsl:s<l.length) :
    ∃x b:Nat,x=(l.getD s 0).toNat+kdR (jQ l s) (l.getD s 0).toNat k∧b=bbT x∧b≤6∧64≤x*2^b∧(x+1)*2^b≤128∧qn l 6 64 64 k=b∧qa l 6 64 64 k=(x*2^b:Nat)-64:=by
  have hs64:(2:Int)^(6:Int).toNat=64:=by decide
  have h6:∀c∈l,-1≤c:=hR.2.2.2.2.2.1;have hcnt:=kgo hR h hsl k (by omega);obtain⟨x,hx⟩:∃x,x=(l.getD s 0).toNat+kdR (jQ l s) (l.getD s 0).toNat k:=⟨_,rfl⟩;have hg:0≤l.getD s 0:=by rcases jm (l:=l) s with e|e;exact h _ e;omega
  have hxT:xT l (jf l 64) k=x:=by
    unfold xT;rw[hs,Int.toNat_natCast,hcnt];unfold km;rw[if_neg (by omega),hx];omega
  have hall:=kbO (kaY hR hs64) (N:=64) rfl h6 (by rw[hR.2.2.2.2.2.2,hs64]) s hsl;have hi:=(kgn hR h hk hsl).1 hs;have hc1:1≤(l.getD s 0).toNat:=by have:=inSeg_iff.1 hi;omega
  have hcl:kY (jf l 64) s k+1≤kY (jf l 64) s 64:=by
    have hlt:∀N,k<N→kY (jf l 64) s k+1≤kY (jf l 64) s N:=by
      intro N;induction N with
      |zero=>intro h;omega
      | succ N ih=>
        intro h;rw[kY];by_cases e:k=N
        · subst e;rw[if_pos hs];omega
        · have:=ih (by omega)
          split<;>omega
    exact hlt 64 hk
  have hps:km (l.getD s 0)=l.getD s 0:=by unfold km;rw[if_neg (by omega)]
  have hsum:=qt h6 s;rw[hR.2.2.2.2.2.2,hs64,hps] at hsum;rw[hall,hcnt,hps] at hcl;obtain⟨b,b1,b2,b3,b4,b5⟩:=kgk (log:=6) (by decide) hs64 (x:=(x:Int)) (by omega) (by omega);have e2:64≤x*2^b:=by
    have:((x*2^b:Nat):Int)=(x:Int)*2^b:=by push_cast;rfl
    omega
  have e3:(x+1)*2^b≤128:=by
    have:(((x+1)*2^b:Nat):Int)=((x:Int)+1)*2^b:=by push_cast;rfl
    omega
  refine⟨x,b,hx,(koc e2 e3 (by omega)).symm,by omega,e2,e3,?_,?_⟩
  · unfold qn;rw[if_pos hk,hxT,b4]
  · unfold qa;rw[if_pos hk,hxT,b5];push_cast;rfl
theorem kkZ {l:List Int} (hR:jc l 6) (h:∀c∈l,0≤c) {k s v:Nat} (hk:k<64) (hs:jf l 64 k=s) (hsl:s<l.length) (h63:l.getD s 0≤63) (hv:qa l 6 64 64 k≤v) :
    3*(qn l 6 64 64 k).toNat+phi k≤kap (l.getD s 0).toNat+phi v:=by
  obtain⟨x,b,hx,hb,hb6,e2,e3,h4,h5⟩:=khX hR h hk hs hsl;have hi:=(kgn hR h hk hsl).1 hs;have hc1:1≤(l.getD s 0).toNat:=by have:=inSeg_iff.1 hi;omega
  have hac:jQ l s+(l.getD s 0).toNat≤64:=by
    have:=qo l (i:=s+1) (j:=l.length) (by omega);rw[keV hR h,jQ] at this;exact this
  have:=kkY hc1 (by omega) hac hk hi;rw[←hx,←hb] at this;rw[h4,Int.toNat_natCast];have hm:phi (x*2^b-64)≤phi v:=phi_mono (by rw[h5] at hv;omega);omega
set_option maxRecDepth 100000 in
set_option maxHeartbeats 4000000 in
theorem kgp (N:Nat) (A B C:Nat→Int) (s:Int) (z:Bool) (cap:Nat) (hN4:N≤4096) :
  Con Try.prog 107 [.slice 0 .z 3 N cap,.int .u8 s,.bool z] [.roA 3 N (fun m=>[.int .u8 (A m),.int .u8 (B m),.int .u16 (C m)])]
   (fun v H R=>R=[]∧H=[.roA 3 N (fun m=>[.int .u8 (A m),.int .u8 (B m),.int .u16 (C m)])] ∧
    ((∃(ki:Int) (k:Nat),v=.tup [.int .i64 ki,.bool true]∧ki=k∧k<N∧A k=s∧(z=true→0<B k))∨(v=.tup [.int .i64 0,.bool false]∧∀k,k<N→A k=s→z=true∧¬0<B k))):=by
 refine kw (kV 1 (by simp) (kH (kl kD koK ?_)))
 intro vb vc _ vtoN _ vaddN _ _ _ _ _ _ _ _ _ _ _ _ _ vnotB _ hw qb qc _ qtoN qofN qaddN _ _ _ _ _ _ _ _ _ _ _ _ _ qnotB _;have hm:=kD;generalize Try.prog=P at *;have hto:∀i:Nat,vtoN (i:Int)=i:=fun i=>by simp only[qtoN,Int.toNat_natCast]
 have hadd0:∀i,vaddN 0 i=i:=fun i=>by simp only[qaddN,Nat.zero_add]
 have hnt:vnotB true=false:=by rw[qnotB];rfl
 have hnf:vnotB false=true:=by rw[qnotB];rfl
 cases z
 ·cbv;refine kv (α:=Int) ([8,9]++(List.range' 13 19)) [] (fun k=>[(12,.int .i64 k)]) (fun _=>[]) (fun k=>∃i:Nat,k=i∧i≤N∧∀j,j<i→A j=s→false=true∧¬0<B j) (fun k=>N-k.toNat) hw hm ?_ ?_
  ·refine Cv.genAt [12] [] (Cv.fold ([8,9]++(List.range' 13 19)) 1 [] (by exact Nat.le_refl _) (by exact Nat.le_of_ble_eq_true rfl) (by rfl) (by cbv) ?_)
   intro js;refine⟨_,?_,js,rfl⟩
   exact⟨0,rfl,by omega,fun j hj=>absurd hj (by omega)⟩
  ·rintro k js ⟨i,hk,hi,hj⟩;cbv;split
   ·rename_i hlt;have hlt:i<N:=by rw[qc,ko] at hlt;simp only[qofN] at hlt;simp only[nc] at *;omega
    have hti:vtoN k=i:=by rw[hk];exact hto i
    have hinR:0≤k∧k<(N:Int):=by simp only[nc] at *;omega
    obtain⟨k1,hk1⟩:∃k1:Int,k1=((i+1:Nat):Int):=⟨_,rfl⟩;have ek:vb .add .i64 k 1=k1:=by simp only[nc] at *;rw[qb,kh (by omega) (by omega)];omega
    have hmu:N-k1.toNat<N-k.toNat:=by simp only[nc] at *;omega
    have hAs:vc .eql (A i) s=decide (A i=s):=by rw[qc];rfl
    have hloop:(A i=s→false=true∧¬0<B i)→(∃i:Nat,k1=i∧i≤N∧∀j,j<i→A j=s→false=true∧¬0<B j)∧N-k1.toNat<N-k.toNat:=fun h=>
     ⟨⟨i+1,hk1,hlt,fun j hj1 hj2=>by
      by_cases he:j=i
      ·subst he;exact h hj2
      ·exact hj j (by omega) hj2⟩,hmu⟩
    cbv;rw[hti];refine⟨⟨hinR⟩,⟨by rw[hadd0];omega⟩,⟨by omega⟩,⟨by omega⟩,⟨by omega⟩,fun _=>rfl,?_⟩
    by_cases hA:A i=s
    ·rw[show vc .eql (A i) s=true by rw[hAs];simp[hA]];cbv;rw[hnf];cbv;exact .inl ⟨k,i,rfl,hk,hlt,hA,fun h=>by cases h⟩
    ·rw[show vc .eql (A i) s=false by rw[hAs];simp[hA]];cbv;rw[ek];refine Cv.fold ([8,9]++(List.range' 13 19)) 1 [] (by exact Nat.le_refl _) (by exact Nat.le_of_ble_eq_true rfl) (by rfl) (by cbv) ?_
     intro js;exact⟨_,hloop (fun h=>absurd h hA),js,rfl⟩
   ·rename_i hlt;have hin:i=N:=by rw[qc,kb] at hlt;simp only[qofN] at hlt;simp only[nc] at *;omega
    subst hin;cbv;exact .inr hj
 ·cbv;refine kv (α:=Int) ([8,9]++(List.range' 13 19)) [] (fun k=>[(12,.int .i64 k)]) (fun _=>[]) (fun k=>∃i:Nat,k=i∧i≤N∧∀j,j<i→A j=s→true=true∧¬0<B j) (fun k=>N-k.toNat) hw hm ?_ ?_
  ·refine Cv.genAt [12] [] (Cv.fold ([8,9]++(List.range' 13 19)) 1 [] (by exact Nat.le_refl _) (by exact Nat.le_of_ble_eq_true rfl) (by rfl) (by cbv) ?_)
   intro js;refine⟨_,?_,js,rfl⟩
   exact⟨0,rfl,by omega,fun j hj=>absurd hj (by omega)⟩
  ·rintro k js ⟨i,hk,hi,hj⟩;cbv;split
   ·rename_i hlt;have hlt:i<N:=by rw[qc,ko] at hlt;simp only[qofN] at hlt;simp only[nc] at *;omega
    have hti:vtoN k=i:=by rw[hk];exact hto i
    have hinR:0≤k∧k<(N:Int):=by simp only[nc] at *;omega
    obtain⟨k1,hk1⟩:∃k1:Int,k1=((i+1:Nat):Int):=⟨_,rfl⟩;have ek:vb .add .i64 k 1=k1:=by simp only[nc] at *;rw[qb,kh (by omega) (by omega)];omega
    have hmu:N-k1.toNat<N-k.toNat:=by simp only[nc] at *;omega
    have hAs:vc .eql (A i) s=decide (A i=s):=by rw[qc];rfl
    have hloop:(A i=s→true=true∧¬0<B i)→(∃i:Nat,k1=i∧i≤N∧∀j,j<i→A j=s→true=true∧¬0<B j)∧N-k1.toNat<N-k.toNat:=fun h=>
     ⟨⟨i+1,hk1,hlt,fun j hj1 hj2=>by
      by_cases he:j=i
      ·subst he;exact h hj2
      ·exact hj j (by omega) hj2⟩,hmu⟩
    cbv;rw[hti];refine⟨⟨hinR⟩,⟨by rw[hadd0];omega⟩,⟨by omega⟩,⟨by omega⟩,⟨by omega⟩,fun _=>rfl,?_⟩
    by_cases hA:A i=s
    ·rw[show vc .eql (A i) s=true by rw[hAs];simp[hA]];cbv;rw[hnt];cbv;by_cases hB:0<B i
     ·rw[show vc .gtr (B i) 0=true by rw[qc,kC];exact hB];cbv;exact .inl ⟨k,i,rfl,hk,hlt,hA,fun _=>hB⟩
     ·rw[show vc .gtr (B i) 0=false by rw[qc,kx];exact hB];cbv;rw[ek];refine Cv.fold ([8,9]++(List.range' 13 19)) 1 [] (by exact Nat.le_refl _) (by exact Nat.le_of_ble_eq_true rfl) (by rfl) (by cbv) ?_
      intro js;exact⟨_,hloop (fun _=>⟨rfl,hB⟩),js,rfl⟩
    ·rw[show vc .eql (A i) s=false by rw[hAs];simp[hA]];cbv;rw[ek];refine Cv.fold ([8,9]++(List.range' 13 19)) 1 [] (by exact Nat.le_refl _) (by exact Nat.le_of_ble_eq_true rfl) (by rfl) (by cbv) ?_
     intro js;exact⟨_,hloop (fun h=>absurd h hA),js,rfl⟩
   ·rename_i hlt;have hin:i=N:=by rw[qc,kb] at hlt;simp only[qofN] at hlt;simp only[nc] at *;omega
    subst hin;cbv;exact .inr hj
set_option maxRecDepth 100000
def kcj (A B C:Nat→Int) (s next:Int) (k:Nat):Prop:=A k=s∧C k≤next∧next-C k<2^(B k).toNat
theorem kk0 (N:Nat) (A B C:Nat→Int) (s next:Int) (cap:Nat) (hN4:N≤4096) (hbnd:∀k,k<N→0≤B k∧B k≤12∧0≤C k∧C k<4096) (hn:0≤next∧next<4096) :
  Con Try.prog 28 [.slice 0 .z 3 N cap,.int .u8 s,.int .i64 next] [.roA 3 N (fun m=>[.int .u8 (A m),.int .u8 (B m),.int .u16 (C m)])]
   (fun v H R=>R=[]∧H=[.roA 3 N (fun m=>[.int .u8 (A m),.int .u8 (B m),.int .u16 (C m)])]∧((∃(ki:Int) (k:Nat),v=.tup [.int .i64 ki,.bool true]∧ki=k∧k<N∧kcj A B C s next k)∨(v=.tup [.int .i64 0,.bool false]∧∀k,k<N→¬kcj A B C s next k))):=by
 refine kw (kV 1 (by simp) (kH (kl kD ko5 ?_)))
 intro vb vc vw vtoN _ vaddN _ _ _ _ _ _ _ _ _ _ _ _ _ _ _ hw qb qc qw qtoN qofN qaddN _ _ _ _ _ _ _ _ _ _ _ _ _ _ _;have hm:=kD;generalize Try.prog=P at *;have hto:∀i:Nat,vtoN (i:Int)=i:=fun i=>by simp only[qtoN,Int.toNat_natCast]
 have hadd0:∀i,vaddN 0 i=i:=fun i=>by simp only[qaddN,Nat.zero_add]
 cbv;refine kv (α:=Int) ([8,9]++(List.range' 13 34)) [] (fun k=>[(12,.int .i64 k)]) (fun _=>[]) (fun k=>∃i:Nat,k=i∧i≤N∧∀j,j<i→¬kcj A B C s next j) (fun k=>N-k.toNat) hw hm ?_ ?_
 ·refine Cv.genAt [12] [] (Cv.fold ([8,9]++(List.range' 13 34)) 1 [] (by exact Nat.le_refl _) (by exact Nat.le_of_ble_eq_true rfl) (by rfl) (by cbv) ?_)
  intro js;exact⟨_,⟨0,rfl,by omega,fun j hj=>absurd hj (by omega)⟩,js,rfl⟩
 ·rintro k js ⟨i,hk,hi,hno⟩;cbv;split
  ·rename_i hlt;have hlt:i<N:=by rw[qc,ko] at hlt;simp only[qofN] at hlt;simp only[nc] at *;omega
   have hti:vtoN k=i:=by rw[hk];exact hto i
   have hinR:0≤k∧k<(N:Int):=by simp only[nc] at *;omega
   obtain⟨k1,hk1⟩:∃k1:Int,k1=((i+1:Nat):Int):=⟨_,rfl⟩;have ek:vb .add .i64 k 1=k1:=by simp only[nc] at *;rw[qb,kh (by omega) (by omega)];omega
   have hmu:N-k1.toNat<N-k.toNat:=by simp only[nc] at *;omega
   obtain⟨q1,q2,q3,q4⟩:=hbnd i hlt;have hwC:vw .i64 (C i)=C i:=by rw[qw];exact wrap_i64 (by omega) (by omega)
   have hwB:vw .u64 (B i)=B i:=by rw[qw];exact wrap_u64 (by omega) (by omega)
   have hB61:vc .gtr (B i) 61=false:=by rw[qc,kx];omega
   have hsh:vb .shl .i64 1 (B i)=2^(B i).toNat:=by rw[qb,kcG (by omega) (by omega)]
   have hsub:vb .sub .i64 next (C i)=next-C i:=by rw[qb,ku (by omega) (by omega)]
   have hAs:vc .eql (A i) s=decide (A i=s):=by rw[qc];rfl
   have hloop:¬kcj A B C s next i→(∃i:Nat,k1=i∧i≤N∧∀j,j<i→¬kcj A B C s next j)∧N-k1.toNat<N-k.toNat:=fun h=>⟨⟨i+1,hk1,hlt,fun j hj=>by
    by_cases he:j=i
    ·subst he;exact h
    ·exact hno j (by omega)⟩,hmu⟩
   have hhit:A i=s→C i≤next→next-C i<2^(B i).toNat→kcj A B C s next i:=fun h1 h2 h3=>⟨h1,h2,h3⟩
   have hn1:¬A i=s→¬kcj A B C s next i:=fun h hh=>h hh.1
   have hn2:¬C i≤next→¬kcj A B C s next i:=fun h hh=>h hh.2.1
   have hn3:¬next-C i<2^(B i).toNat→¬kcj A B C s next i:=fun h hh=>h hh.2.2
   generalize kcj A B C s next=HT at *;cbv;rw[hti];refine⟨⟨hinR⟩,⟨by rw[hadd0];omega⟩,⟨by omega⟩,⟨by omega⟩,⟨by omega⟩,fun _=>rfl,?_⟩
   by_cases hA:A i=s
   ·rw[show vc .eql (A i) s=true by rw[hAs];simp[hA]];cbv;rw[hwC];by_cases hC:C i≤next
    ·rw[show vc .leq (C i) next=true by rw[qc,kay];exact hC];cbv;rw[hB61];cbv;rw[hwC,hwB,hsub,hsh];by_cases hD:next-C i<2^(B i).toNat
     ·rw[show vc .lss (next-C i) (2^(B i).toNat)=true by rw[qc,ko];exact hD];cbv;refine⟨⟨q1⟩,?_⟩
      exact .inl ⟨k,i,rfl,hk,hlt,hhit hA hC hD⟩
     ·rw[show vc .lss (next-C i) (2^(B i).toNat)=false by rw[qc,kb];exact hD];cbv;refine⟨⟨q1⟩,?_⟩
      rw[ek];refine Cv.fold ([8,9]++(List.range' 13 34)) 1 [] (by exact Nat.le_refl _) (by exact Nat.le_of_ble_eq_true rfl) (by rfl) (by cbv) ?_
      intro js;exact⟨_,hloop (hn3 hD),js,rfl⟩
    ·rw[show vc .leq (C i) next=false by rw[qc,kaz];exact hC];cbv;rw[ek];refine Cv.fold ([8,9]++(List.range' 13 34)) 1 [] (by exact Nat.le_refl _) (by exact Nat.le_of_ble_eq_true rfl) (by rfl) (by cbv) ?_
     intro js;exact⟨_,hloop (hn2 hC),js,rfl⟩
   ·rw[show vc .eql (A i) s=false by rw[hAs];simp[hA]];cbv;rw[ek];refine Cv.fold ([8,9]++(List.range' 13 34)) 1 [] (by exact Nat.le_refl _) (by exact Nat.le_of_ble_eq_true rfl) (by rfl) (by cbv) ?_
    intro js;exact⟨_,hloop (hn1 hA),js,rfl⟩
  ·rename_i hlt;have hin:i=N:=by rw[qc,kb] at hlt;simp only[qofN] at hlt;simp only[nc] at *;omega
   subst hin;cbv;exact .inr hno
theorem kni (bs l:List Int) (c n:Nat) (x k m:Int) (hx:0≤x∧x<2^64) (hk:0≤k∧k≤56) (h:WS bs l n m) (hl:bs.length≤2^40) :
  Con Try.prog 29 [.ptr 0 .z 2 0,.int .u64 x,.int .i64 k] [.one 71 [.slice 1 .z 1 n c,.int .i64 m],.buf 5 .u8 l c]
   (fun v H R=>R=[1]∧∃l' n' m' c',WS (bs++kr x k.toNat) l' n' m'∧v=.int .i64 0∧H=[.one 71 [.slice 1 .z 1 n' c',.int .i64 m'],.buf 5 .u8 l' c']):=by
 obtain⟨h1,rfl,rfl,rfl⟩:=h;obtain⟨j,rfl⟩:∃j:Nat,k=j:=⟨k.toNat,by omega⟩;refine kw ((kge bs c x j (by omega) hx h1 hl).mono ?_)
 rintro v H R ⟨rfl,rfl,c',rfl⟩;refine⟨rfl,_,_,_,c',⟨fun b hb=>?_,rfl,rfl,rfl⟩,rfl,rfl⟩
 rw[Int.toNat_natCast] at hb;rcases List.mem_append.1 hb with hb|hb
 ·exact h1 b hb
 ·exact kX _ _ b hb
theorem kk1 (bs l:List Int) (c n:Nat) (m:Int) (h:WS bs l n m) (hl:bs.length≤2^40) :
  Con Try.prog 31 [.ptr 0 .z 2 0] [.one 71 [.slice 1 .z 1 n c,.int .i64 m],.buf 5 .u8 l c]
   (fun v H R=>R=[1]∧∃l' n' c',l'=pack (bs++[1])∧n'=l'.length∧v=.slice 1 .z 1 n' c'∧H=[.one 71 [.val (.slice none 0 0),.int .i64 0],.buf 5 .u8 l' c']):=by
 obtain⟨h1,rfl,rfl,rfl⟩:=h;refine(kfC bs c h1 hl).mono ?_
 rintro v H R ⟨rfl,c',rfl,rfl⟩;exact⟨rfl,_,_,c',rfl,rfl,rfl,rfl⟩
theorem kaj (q:List Int) (i j:Nat) (y:Int):(q.set i y).getD j 0=y∧i=j∨(q.set i y).getD j 0=q.getD j 0:=by
 simp only[List.getD_eq_getElem?_getD,List.getElem?_set];split
 ·split
  ·exact .inl ⟨rfl,by assumption⟩
  ·right;rw[List.getElem?_eq_none (by omega)]
 ·exact .inr rfl
theorem kbs {x:Int} (h0 : -32768≤x) (h1:x<32768):IntKind.i16.wrap x=x:=by
 simp[IntKind.wrap,IntKind.bits,IntKind.signed];omega
theorem knj {x y:Int} (h0 : -32768≤x+y) (h1:x+y<32768):bV .add .i16 x y=x+y:=kbs h0 h1
theorem kjD {x y:Int} (h0:0≤x+y) (h1:x+y<18446744073709551616):bV .add .u64 x y=x+y:=wrap_u64 h0 h1
theorem knk {x y:Int} (h0:0≤x*y) (h1:x*y<18446744073709551616):bV .mul .u64 x y=x*y:=wrap_u64 h0 h1
theorem knl {x y:Int} (h0:0≤x) (h1:x<18446744073709551616) (hy:0≤y):bV .quo .u64 x y=x / y:=by
 show IntKind.u64.wrap (x.tdiv y)=x / y
 rw[Int.tdiv_eq_ediv_of_nonneg h0];have:=Int.ediv_nonneg h0 hy;have:=Int.ediv_le_self y h0;exact wrap_u64 (by omega) (by omega)
def rdN (b:List Int) (pos n:Nat):Option Int:=if pos+n≤8*b.length then some (kK (ja b) pos n) else none
def kdS (b:List Int) (pos:Nat) (most v:Int):Option (Int×Nat):=
 if v≥2^(kB most).toNat-1-most then(match rdN b (pos+(kB most-1).toNat) 1 with
   |none=>none
   |some top=>some (if top=1 then v+(2^(kB most-1).toNat-(2^(kB most).toNat-1-most)) else v,pos+(kB most).toNat))
  else some (v,pos+(kB most-1).toNat)
theorem kmm {b:List Int} {pos:Nat} {most v:Int} (h:¬v≥2^(kB most).toNat-1-most):kdS b pos most v=some (v,pos+(kB most-1).toNat):=by unfold kdS;rw[if_neg h]
theorem kk2 {b:List Int} {pos:Nat} {most v:Int} (h:v≥2^(kB most).toNat-1-most) (h2:rdN b (pos+(kB most-1).toNat) 1=none):kdS b pos most v=none:=by unfold kdS;rw[if_pos h,h2]
theorem kk3 {b:List Int} {pos:Nat} {most v top:Int} (h:v≥2^(kB most).toNat-1-most) (h2:rdN b (pos+(kB most-1).toNat) 1=some top) :
  kdS b pos most v=some (if top=1 then v+(2^(kB most-1).toNat-(2^(kB most).toNat-1-most)) else v,pos+(kB most).toNat):=by unfold kdS;rw[if_pos h,h2]
def readS (b:List Int) (ms:Int):Nat→Bool→Int→List Int→Nat→Int×List Int×Nat
 |0,_,_,cs,pos=>(0,cs,pos)
 | f + 1,false,left,cs,pos=>
  if left≤0 then(0,cs,pos)
  else if (cs.length:Int)>ms then(11,[],0)
  else match rdN b pos (kB (left+1)-1).toNat with
   |none=>(10,[],0)
   | some v=>match kdS b pos (left+1) v with
    |none=>(10,[],0)
    |some (v,pos)=>if v-1≠0 then readS b ms f false (left-km (v-1)) (cs++[v-1]) pos
     else if ((cs++[v-1]).length:Int)>ms then(11,[],0) else readS b ms f true (left-km (v-1)) (cs++[v-1]) pos
 |f+1,true,left,cs,pos=>match rdN b pos 2 with
  |none=>(10,[],0)
  |some n=>if ((cs++List.replicate n.toNat 0).length:Int)>ms then(11,[],0) else if n=3 then readS b ms f true left (cs++List.replicate n.toNat 0) (pos+2) else readS b ms f false left (cs++List.replicate n.toNat 0) (pos+2)
def kb1 (b:List Int) (ml ms:Int):List Int×Int×Int×Int:=
 if ml<5∨ml>12∨ms<0∨ms>255 then([],0,0,2)
 else match rdN b 0 4 with
  |none=>([],0,0,10)
  |some x=>if x+5>ml then([],0,0,11) else
   if (readS b ms 600 false (2^(x+5).toNat) [] 4).1≠0 then([],0,0,(readS b ms 600 false (2^(x+5).toNat) [] 4).1)
   else((readS b ms 600 false (2^(x+5).toNat) [] 4).2.1,x+5,((readS b ms 600 false (2^(x+5).toNat) [] 4).2.2+7:Int) / 8,0)
theorem koU (b:List Int) (pos cap bl:Nat) (n acc hv ai:Int) (hbl:bl=b.length) (hby:∀x∈b,isByte x) (hl:b.length≤2^50) (h:RS b pos acc hv ai) (hn:0≤n∧n≤56) :
  Con Try.prog 100 [.ptr 0 .z 4 0,.int .i64 n] [(.one 215 [.fn 121 [.ptr 1 .z 1 0,.ptr 2 .z 1 0],.int .u64 (acc),.int .i64 (hv),.fn 122 [.ptr 2 .z 1 0,.ptr 1 .z 1 0]]),.one 3 [.int .i64 ai],.one 25 [.slice 3 .z 1 bl cap],.ro .u8 b]
   (fun v H R=>R=[]∧∃acc2 hv2 ai2 x e pos2,v=.tup [.int .u64 x,.int .i64 e]∧RS b pos2 acc2 hv2 ai2 ∧
    ((e=0∧rdN b pos n.toNat=some x∧pos2=pos+n.toNat∧0≤x∧x<2^n.toNat)∨(e=10∧rdN b pos n.toNat=none)) ∧
    H=[(.one 215 [.fn 121 [.ptr 1 .z 1 0,.ptr 2 .z 1 0],.int .u64 (acc2),.int .i64 (hv2),.fn 122 [.ptr 2 .z 1 0,.ptr 1 .z 1 0]]),.one 3 [.int .i64 ai2],.one 25 [.slice 3 .z 1 bl cap],.ro .u8 b]):=by
 subst hbl;refine(kmb b pos cap n acc hv ai hby hl h).mono ?_
 rintro v H R ⟨rfl,rfl,acc2,hv2,ai2,hrs,rfl⟩;refine⟨rfl,acc2,hv2,ai2,_,_,_,rfl,hrs,?_,rfl⟩
 unfold rbX rbE rbP rdN;by_cases hp:pos+n.toNat≤8*b.length
 ·have hp':(pos:Int)+n≤8*b.length:=by omega
  have hb:=jd (ja b) (kaB b) pos n.toNat;have hc:0≤n∧n≤56∧(pos:Int)+n≤8*b.length:=⟨hn.1,hn.2,hp'⟩;simp only[if_pos hc,if_pos hn,if_pos hp',if_pos hp];exact .inl ⟨trivial,trivial,trivial,hb⟩
 ·have hp':¬(pos:Int)+n≤8*b.length:=by omega
  have hc:¬(0≤n∧n≤56∧(pos:Int)+n≤8*b.length):=fun h=>hp' h.2.2
  simp only[if_neg hc,if_pos hn,if_neg hp',if_neg hp];exact .inr ⟨trivial,trivial⟩
set_option maxRecDepth 10000
theorem khY (b:List Int) (cap:Nat) (ml ms:Int) (hby:∀x∈b,isByte x) (hl:b.length≤140737488355328) (hml : -9223372036854775808≤ml∧ml≤9223372036854775807) (hms : -9223372036854775808≤ms∧ms≤9223372036854775807)
  (cs0:List Int) (log0 used0 e0:Int) (hR:kb1 b ml ms=(cs0,log0,used0,e0)) :
  Con Try.prog 70 [.slice 0 .z 1 b.length cap,.int .i64 ml,.int .i64 ms] [.ro .u8 b] (fun v H R=>kdE 1 R=[]∧1≤H.length∧kcC (H.take 1)=[.ro .u8 b] ∧
   ((e0≠0∧gen v=.tup [.val (.slice none 0 0),.int .i64 0,.int .i64 0,.int .i64 e0]) ∨
    (e0=0∧6≤H.length∧∃c c0 acc hv ai,gen v=.tup [.slice 5 .z 1 cs0.length c,.int .i64 log0,.int .i64 used0,.int .i64 0] ∧
     kcC (H.take 6)=[.ro .u8 b,.buf 5 .u8 b c0,.one 25 [.slice 1 .z 1 b.length c0],.one 3 [.int .i64 ai],.one 215 [.fn 121 [.ptr 3 .z 1 0,.ptr 2 .z 1 0],.int .u64 acc,.int .i64 hv,.fn 122 [.ptr 2 .z 1 0,.ptr 3 .z 1 0]],.buf 124 .i16 cs0 c]))):=by
 have hnew:=kl9 b cap hl;have hrd:=@koU b;have hleft:=@kmc b;have hlen:=kcH;have hparts:=kbL;have hst0:=RS.start b;refine kl kD kpf ?_
 intro vb vc vw vtoN vofN vaddN _ _ _ _ _ _ vln vrep vsub vonto _ _ _ _ _ hw qb qc qw qtoN qofN qaddN _ _ _ _ _ _ qln qrep qsub qonto _ _ _ _ _;have hm:=kD;generalize Try.prog=P at *;have hR:(if ml<5∨ml>12∨ms<0∨ms>255 then([],0,0,2)
   else match rdN b 0 4 with
    |none=>([],0,0,10)
    |some x=>if x+5>ml then([],0,0,11) else
     if (readS b ms 600 false (2^(x+5).toNat) [] 4).1≠0 then([],0,0,(readS b ms 600 false (2^(x+5).toNat) [] 4).1)
     else((readS b ms 600 false (2^(x+5).toNat) [] 4).2.1,x+5,((readS b ms 600 false (2^(x+5).toNat) [] 4).2.2+7:Int) / 8,0))=(cs0,log0,used0,e0):=hR
 generalize hbl:b.length=bl at *;cbv;generalize h1:vc .lss ml 5=z1;cases z1
 rotate_left
 ·rw[qc,ko] at h1;have he0:e0=2:=by
   rw[if_pos (by omega)] at hR;simp only[Prod.mk.injEq] at hR;exact hR.2.2.2.symm
  cbv;exact .inl ⟨by rw[he0];decide,by rw[he0]⟩
 rw[qc,kb] at h1;cbv;generalize h2:vc .gtr ml 12=z2;cases z2
 rotate_left
 ·rw[qc,kC] at h2;have he0:e0=2:=by
   rw[if_pos (by omega)] at hR;simp only[Prod.mk.injEq] at hR;exact hR.2.2.2.symm
  cbv;exact .inl ⟨by rw[he0];decide,by rw[he0]⟩
 rw[qc,kx] at h2;cbv;generalize h3:vc .lss ms 0=z3;cases z3
 rotate_left
 ·rw[qc,ko] at h3;have he0:e0=2:=by
   rw[if_pos (by omega)] at hR;simp only[Prod.mk.injEq] at hR;exact hR.2.2.2.symm
  cbv;exact .inl ⟨by rw[he0];decide,by rw[he0]⟩
 rw[qc,kb] at h3;cbv;generalize h4:vc .gtr ms 255=z4;cases z4
 rotate_left
 ·rw[qc,kC] at h4;have he0:e0=2:=by
   rw[if_pos (by omega)] at hR;simp only[Prod.mk.injEq] at hR;exact hR.2.2.2.symm
  cbv;exact .inl ⟨by rw[he0];decide,by rw[he0]⟩
 rw[qc,kx] at h4;rw[if_neg (by omega)] at hR;cbv;refine ka (ρ:=[(0,.z)]) hnew ⟨by rfl,by rfl,by rfl,by cbv;exact⟨kd _,trivial⟩⟩ ?_
 rintro v H R js ⟨rfl,rfl,c0,rfl⟩;have hrd4:=hrd 0 c0 bl 4 0 0 0 rfl hby (by omega) hst0 (by omega);cbv;refine ka (ρ:=[(4,.z),(3,.z),(2,.z),(1,.z)]) hrd4 ⟨by rfl,by rfl,by rfl,by cbv;exact⟨kd _,trivial⟩⟩ ?_
 rintro v H R js2 ⟨rfl,acc2,hv2,ai2,x,e,pos2,rfl,hrs,hcase,rfl⟩;cbv;have h00:vc .neq 0 0=false:=by rw[qc];rfl
 have h100:vc .neq 10 0=true:=by rw[qc];rfl
 rcases hcase with⟨rfl,hrd1,rfl,hx0,hx1⟩|⟨rfl,hrd1⟩
 rotate_left
 ·rw[h100];have he0:e0=10:=by
   have hrd1:rdN b 0 4=none:=hrd1;rw[hrd1] at hR;simp only[Prod.mk.injEq] at hR;exact hR.2.2.2.symm
  cbv;exact .inl ⟨by rw[he0];decide,by rw[he0]⟩
 have hrd1:rdN b 0 4=some x:=hrd1;have hx1:x<16:=hx1;rw[hrd1] at hR;simp only at hR
 rw[h00];have ew1:vw .i64 x=x:=by rw[qw];exact wrap_i64 (by omega) (by omega)
 have ea1:vb .add .i64 x 5=x+5:=by rw[qb,kh (by omega) (by omega)]
 obtain⟨lg,hlg⟩:∃lg:Int,lg=x+5:=⟨_,rfl⟩;rw[←hlg] at ea1 hR;cbv;rw[ew1,ea1];generalize h5:vc .gtr lg ml=z5;cases z5
 rotate_left
 ·rw[qc,kC] at h5;have he0:e0=11:=by
   rw[if_pos (by omega)] at hR;simp only[Prod.mk.injEq] at hR;exact hR.2.2.2.symm
  cbv;exact .inl ⟨by rw[he0];decide,by rw[he0]⟩
 rw[qc,kx] at h5;rw[if_neg (by omega)] at hR;have e2:vw .u64 lg=lg:=by rw[qw];exact wrap_u64 (by omega) (by omega)
 have e3:vb .shl .i64 1 lg=2^lg.toNat:=by rw[qb,kcG (by omega) (by omega)]
 have hpl:=kag (log:=lg) (by omega);generalize hpw:(2:Int)^lg.toNat=pw at *;have hfuel:∃RES,readS b ms 600 false pw [] 4=RES:=⟨_,rfl⟩;obtain⟨RES,hRES⟩:=hfuel;rw[hRES] at hR;have hbad:∀E:Int,E≠0→RES=(E,[],0)→e0=E:=by
  intro E hE h;rw[h] at hR;simp only at hR
  rw[if_pos hE] at hR;simp only[Prod.mk.injEq] at hR;exact hR.2.2.2.symm
 have hgood:∀cs pos,RES=(0,cs,pos)→cs0=cs∧log0=lg∧used0=((pos:Int)+7) / 8∧e0=0:=by
  intro cs pos h;rw[h] at hR;simp only at hR
  rw[if_neg (by decide)] at hR;simp only[Prod.mk.injEq] at hR;exact⟨hR.1.symm,hR.2.1.symm,hR.2.2.1.symm,hR.2.2.2.symm⟩
 clear hR hrd4 hrd1 hst0;have hrS:=readS.eq_def;cbv;rw[e2,e3];refine⟨⟨by omega⟩,?_⟩
 refine WX.cv (Cv.nilT 6 124 .i16 (by rfl) (by cbv;try exact⟨fun _=>rfl,trivial⟩) (Cv.here ?_))
 cbv;refine kv (α:=Nat×Int×List Int×Nat×Nat×Nat×Int×Int×Int) ([13,14,15,16,17,18,19,20]++[54,55,56,57,58,59,60,61,62,63,64,65,66,67,68,69,70,71,72,73,74,75,76,77,78,79,80,81,82,83,84,85,86,87,88,89,90,91,92,93,94,95,96,97,98,99,100,101,102,103,104,105,106,107,108,109,110,111,112,113,114,115,116,117,118,119,120,121,122,123,124,125,126,127,128,129,130,131,132,133,134,135,136]) [5]
  (fun(f,left,cs,rl,c,pos,acc,hv,ai)=>[(12,.int .i64 left),(6,.slice 5 .z 1 rl c)])
  (fun(f,left,cs,rl,c,pos,acc,hv,ai)=>[(3,.one 3 [.int .i64 ai]),(4,.one 215 [.fn 121 [.ptr 3 .z 1 0,.ptr 2 .z 1 0],.int .u64 acc,.int .i64 hv,.fn 122 [.ptr 2 .z 1 0,.ptr 3 .z 1 0]]),(5,.buf 124 .i16 cs c)])
  (fun(f,left,cs,rl,c,pos,acc,hv,ai)=>readS b ms f false left cs pos=RES∧600≤f+2*cs.length∧cs.length≤256∧rl=cs.length∧RS b pos acc hv ai∧left≤4096)
  (fun(f,left,cs,rl,c,pos,acc,hv,ai)=>f) hw hm ?_ ?_
 ·refine Cv.genAt [] [3,4] (Cv.fold ([13,14,15,16,17,18,19,20]++[54,55,56,57,58,59,60,61,62,63,64,65,66,67,68,69,70,71,72,73,74,75,76,77,78,79,80,81,82,83,84,85,86,87,88,89,90,91,92,93,94,95,96,97,98,99,100,101,102,103,104,105,106,107,108,109,110,111,112,113,114,115,116,117,118,119,120,121,122,123,124,125,126,127,128,129,130,131,132,133,134,135,136]) 6 [5] (by exact Nat.le_refl _) (by exact Nat.le_of_ble_eq_true rfl) (by rfl) (by cbv) ?_)
  intro js;refine⟨(600,_,_,_,_,4,_,_,_),?_,js,rfl⟩
  exact⟨hRES,by omega,by simp,rfl,hrs,by omega⟩
 ·rintro ⟨f,left,cs,rl,c,pos,acc,hv,ai⟩ js ⟨hS,hf,hcl,hrl,hrs3,hle⟩;obtain⟨g,rfl⟩:∃g,f=g+1:=⟨f-1,by omega⟩;have hofn:vofN rl=(rl:Int):=by simp only[qofN]
  rw[readS] at hS;cbv;split
  rotate_left
  ·rename_i hz;rw[qc,kx] at hz;rw[if_pos (by omega)] at hS;obtain⟨rfl,rfl,hu,he0⟩:=hgood _ _ hS.symm;have hlf:=hleft pos c0 acc hv ai (by omega) hrs3;have hposb:(pos:Int)≤8*bl:=by
    obtain⟨at',h1,h2,h3,_⟩:=hrs3;simp only[nc] at *;omega
   obtain⟨lf,hlf1⟩:∃lf:Int,lf=8*(bl:Int)-pos:=⟨_,rfl⟩;simp only[nc] at hlf;rw[←hlf1] at hlf;have eq8:vb .quo .i64 lf 8=lf / 8:=by rw[qb,j6 (by omega) (by omega) (by omega)]
   have hofb:vofN bl=(bl:Int):=by simp only[qofN]
   have eu:vb .sub .i64 (vofN bl) (lf / 8)=used0:=by rw[hofb,qb,ku (by omega) (by omega),hu];simp only[nc] at *;omega
   cbv;refine ka (ρ:=[(4,.z),(3,.z),(2,.z),(1,.z)]) hlf ⟨by rfl,by rfl,by rfl,by cbv;exact⟨kd _,trivial⟩⟩ ?_
   rintro v H R js3 ⟨rfl,rfl,rfl⟩;cbv;rw[eq8,eu,hrl];exact .inr ⟨he0,c,c0,acc,hv,ai,rfl,rfl⟩
  ·rename_i hz;rw[qc,kC] at hz;rw[if_neg (by omega)] at hS;cbv;generalize hz2:vc .gtr (vofN rl) ms=z2;cases z2
   rotate_left
   ·rw[qc,kC,hofn] at hz2;rw[if_pos (by simp only[nc] at *;omega)] at hS;have he0:=hbad 11 (by decide) hS.symm;cbv;exact .inl ⟨by rw[he0];decide,by rw[he0]⟩
   rw[qc,kx,hofn] at hz2;rw[if_neg (by simp only[nc] at *;omega)] at hS;have ea:vb .add .i64 left 1=left+1:=by rw[qb,kh (by omega) (by omega)]
   obtain⟨mo,hmo⟩:∃mo:Int,mo=left+1:=⟨_,rfl⟩;rw[←hmo] at ea hS;have eb:vw .u64 mo=mo:=by rw[qw];exact wrap_u64 (by omega) (by omega)
   have hl1:=hlen mo (by omega);have hmax:=kmh (x:=mo) (by omega) (by omega);obtain⟨mk,hmk,hmk1,hmk2⟩:=jA (x:=mo) (by omega);have hvA:=fun v=>@kmm b pos mo v
   have hvB:=fun v=>@kk2 b pos mo v
   have hvC:=fun v top=>@kk3 b pos mo v top
   generalize kdS b pos mo=VR at *;generalize kB mo=mb at *;have ec:vw .u64 mb=mb:=by rw[qw];exact wrap_u64 (by omega) (by omega)
   have ed:vb .shl .i64 1 mb=2^mb.toNat:=by rw[qb,qK (by omega) (by omega)]
   have ee:vb .sub .i64 mb 1=mb-1:=by rw[qb,ku (by omega) (by omega)]
   have ee2:vw .u64 (mb-1)=mb-1:=by rw[qw];exact wrap_u64 (by omega) (by omega)
   have ef:vb .shl .u64 1 (mb-1)=2^(mb-1).toNat:=by
    have e:(mb-1).toNat=mk:=by omega
    have e4:mb-1=(mk:Int):=by omega
    rw[e,e4,qb];show IntKind.u64.wrap (1*2^(min ((mk:Int).toNat) IntKind.u64.bits))=2^mk
    have e2:min ((mk:Int).toNat) IntKind.u64.bits=mk:=by simp[IntKind.bits];omega
    have hp:(2:Int)^mk≤2^12:=by exact_mod_cast Nat.pow_le_pow_right (by omega:0<2) (by omega:mk≤12)
    have hp0:(0:Int)<2^mk:=Int.pow_pos (by omega);rw[e2,Int.one_mul];exact wrap_u64 (by omega) (by omega)
   have hpm:(2:Int)^mb.toNat=2^(mk+1):=by rw[hmk];rfl
   have hmbt:(mb-1).toNat=mk:=by omega
   have hmbt2:mb.toNat=mk+1:=by omega
   have hpw2:(2:Int)^(mk+1)=2*2^mk:=by rw[Int.pow_succ];omega
   rw[hpm,hpw2] at ed;rw[hmbt] at ef hS;simp only[hmbt,hmbt2,hpw2] at hvA hvB hvC;rw[hpw2] at hmk2;have hqq:(2:Int)^mk≤2^12:=by exact_mod_cast Nat.pow_le_pow_right (by omega:0<2) (by omega:mk≤12)
   have hrdm:=hrd pos c0 bl (mb-1) acc hv ai rfl hby (by omega) hrs3 (by omega);rw[hmbt] at hrdm;generalize hq:(2:Int)^mk=q at *;have eg:vb .sub .i64 (2*q) 1=2*q-1:=by rw[qb,ku (by omega) (by omega)]
   have eh:vb .sub .i64 (2*q-1) mo=2*q-1-mo:=by rw[qb,ku (by omega) (by omega)]
   have ehw:vw .u64 (2*q-1-mo)=2*q-1-mo:=by rw[qw];exact wrap_u64 (by omega) (by omega)
   have ei:vb .sub .u64 q (2*q-1-mo)=q-(2*q-1-mo):=by rw[qb];show IntKind.u64.wrap _=_;exact wrap_u64 (by omega) (by omega)
   obtain⟨tt,htt⟩:∃tt:Int,tt=2*q-1-mo:=⟨_,rfl⟩;rw[←htt] at eh ehw ei;simp only[hq,←htt] at hvA hvB hvC;generalize hq21:2*q-1=q21 at *;generalize hq2:2*q=q2 at *;generalize hmb1:mb-1=mb1 at *;cbv;rw[ea,eb];refine ka (ρ:=[]) hl1 ⟨by rfl,by rfl,by rfl,by cbv⟩ ?_
   rintro v H R js3 ⟨rfl,rfl,rfl⟩;cbv;rw[ec,ed,eg,ea,eh,ehw,ee];refine⟨⟨by omega⟩,?_⟩
   refine ka (ρ:=[(4,.z),(3,.z),(2,.z),(1,.z)]) hrdm ⟨by rfl,by rfl,by rfl,by cbv;exact⟨kd _,trivial⟩⟩ ?_
   rintro v H R js4 ⟨rfl,acc3,hv3,ai3,v1,e1,pos3,rfl,hrs4,hcase,rfl⟩;cbv;rcases hcase with⟨rfl,hrd1,rfl,hv0,hv1⟩|⟨rfl,hrd1⟩
   rotate_left
   ·rw[hrd1] at hS;have he0:=hbad 10 (by decide) hS.symm;rw[h100];cbv;exact .inl ⟨by rw[he0];decide,by rw[he0]⟩
   rw[hrd1] at hS;simp only at hS
   rw[h00];cbv;have hrd1b:=fun acc hv ai h=>hrd (pos+mk) c0 bl 1 acc hv ai rfl hby (by omega) h (by omega)
   generalize hz7:vc .geq v1 tt=z7;have hfin:∀(vv:Int) (pp:Nat),VR v1=some (vv,pp)→(if vv-1≠0 then readS b ms g false (left-km (vv-1)) (cs++[vv-1]) pp
     else if ((cs++[vv-1]).length:Int)>ms then(11,[],0) else readS b ms g true (left-km (vv-1)) (cs++[vv-1]) pp)=RES:=by
    intro vv pp h;rw[h] at hS;exact hS
   cases z7
   rw[qc,k7] at hz7;have hval:∃(vv:Int) (pp:Nat),vv=v1∧pp=pos+mk∧VR v1=some (vv,pp)∧0≤vv∧vv≤8192:=⟨_,_,rfl,rfl,hvA _ (by omega),by omega,by omega⟩;obtain⟨vv,pp,rfl,hpp,hvr,hvv0,hvv1⟩:=hval;rw[←hpp] at hrs4;have hrsF:=hrs4;cbv;rotate_left
   rw[qc,jP] at hz7;cbv;refine ka (ρ:=[(4,.z),(3,.z),(2,.z),(1,.z)]) (hrd1b _ _ _ hrs4) ⟨by rfl,by rfl,by rfl,by cbv;exact⟨kd _,trivial⟩⟩ ?_
   rintro v H R js5 ⟨rfl,accF,hvF,aiF,top,e2,pp,rfl,hrsF,hcase2,rfl⟩;cbv;rcases hcase2 with⟨rfl,hrd2,hpp,ht0,ht1⟩|⟨rfl,hrd2⟩
   rotate_left
   ·rw[hvB _ (by omega) hrd2] at hS;have he0:=hbad 10 (by decide) hS.symm;rw[h100];cbv;exact .inl ⟨by rw[he0];decide,by rw[he0]⟩
   rotate_left
   have hvr:=hvC _ _ (by omega) hrd2;rw[h00];cbv;generalize hz8:vc .eql top 1=z8;cases z8
   rw[qc,ky] at hz8;rw[if_neg hz8] at hvr;have hval:∃(vv:Int),vv=v1∧VR v1=some (vv,pp)∧0≤vv∧vv≤8192:=⟨_,rfl,by rw[hvr,hpp];rfl,by omega,by omega⟩;clear hvr;obtain⟨vv,rfl,hvr,hvv0,hvv1⟩:=hval;cbv;rotate_left
   rw[qc,kJ] at hz8;rw[if_pos hz8] at hvr;have ej:vb .add .u64 v1 (q-tt)=v1+(q-tt):=by rw[qb,kjD (by omega) (by omega)]
   have hval:∃(vv:Int),vv=v1+(q-tt)∧VR v1=some (vv,pp)∧0≤vv∧vv≤8192:=⟨_,rfl,by rw[hvr,hpp];rfl,by omega,by omega⟩;clear hvr;obtain⟨vv,hvv,hvr,hvv0,hvv1⟩:=hval;rw[←hvv] at ej;cbv;rw[ee,ee2,ef,ei,ej];refine⟨⟨by omega⟩,?_⟩
   all_goals
    have hS2:=hfin _ _ hvr;clear hfin hS hvA hvB hvC;have ek:vw .i16 vv=vv:=by rw[qw];exact kbs (by omega) (by omega)
    have el:vb .sub .i16 vv 1=vv-1:=by rw[qb];show IntKind.i16.wrap _=_;exact kbs (by omega) (by omega)
    obtain⟨cc,hcc⟩:∃cc:Int,cc=vv-1:=⟨_,rfl⟩;rw[←hcc] at el hS2;have hpc:=hparts cc (by unfold jo;omega);have hpn:=kbK (c:=cc) (by unfold jo;omega);generalize km cc=pc at *;have em:vb .sub .i64 left pc=left-pc:=by rw[qb,ku (by omega) (by omega)]
    obtain⟨left2,hl2⟩:∃left2:Int,left2=left-pc:=⟨_,rfl⟩;rw[←hl2] at em hS2;have hvln:vln cs=rl:=by simp only[qln,hrl]
    have hsub:vsub [cc] 0 1=[cc]:=by simp only[qsub];rfl
    have honto:vonto cs rl [cc]=cs++[cc]:=by rw[qonto,hrl];simp
    have hln1:vln [cc]=1:=by simp only[qln];rfl
    have ha1:vaddN rl 1=rl+1:=by simp only[qaddN]
    have ha01:vaddN 0 1=1:=by simp only[qaddN]
    have hrl40:rl≤256:=by omega
    obtain⟨cs2,hcs2⟩:∃cs2:List Int,cs2=cs++[cc]:=⟨_,rfl⟩;have hcl2:cs2.length=rl+1:=by rw[hcs2,List.length_append,hrl];rfl
    rw[←hcs2] at honto hS2;obtain⟨rl2,hrl2⟩:∃rl2:Nat,rl2=rl+1:=⟨_,rfl⟩;rw[←hrl2] at ha1 hcl2;have hofn2:vofN rl2=(rl2:Int):=by simp only[qofN]
    rw[ek,el];refine⟨⟨by rw[ha01,hln1];exact Nat.le_refl _⟩,⟨by rw[hvln];exact Nat.le_refl _⟩,⟨Nat.le_refl _⟩,⟨by rw[ha1];omega⟩,?_⟩
    intro c4 js6 hle4;cbv;refine ka (ρ:=[]) hpc ⟨by rfl,by rfl,by rfl,by cbv⟩ ?_
    rintro v H R js7 ⟨rfl,rfl,rfl⟩;cbv;rw[em,hsub,honto,ha1];generalize hz9:vc .neq cc 0=z9;cases z9
    rotate_left
    ·rw[qc,kaw] at hz9;rw[if_pos hz9] at hS2;cbv;refine Cv.fold ([13,14,15,16,17,18,19,20]++[54,55,56,57,58,59,60,61,62,63,64,65,66,67,68,69,70,71,72,73,74,75,76,77,78,79,80,81,82,83,84,85,86,87,88,89,90,91,92,93,94,95,96,97,98,99,100,101,102,103,104,105,106,107,108,109,110,111,112,113,114,115,116,117,118,119,120,121,122,123,124,125,126,127,128,129,130,131,132,133,134,135,136]) 6 [5] (by exact Nat.le_refl _) (by exact Nat.le_of_ble_eq_true rfl) (by rfl) (by cbv) ?_
     intro js;refine⟨(g,_,_,_,_,pp,_,_,_),?_,js,rfl⟩
     refine⟨⟨hS2,by omega,by simp only[nc] at *;omega,hcl2.symm,hrsF,by omega⟩,?_⟩
     show g<g+1
     omega
    rw[qc,kax] at hz9;rw[if_neg hz9] at hS2;cbv;generalize hz10:vc .gtr (vofN rl2) ms=z10;cases z10
    rotate_left
    ·rw[qc,kC,hofn2] at hz10;rw[if_pos (by simp only[nc] at *;omega)] at hS2;have he0:=hbad 11 (by decide) hS2.symm;cbv;exact .inl ⟨by rw[he0];decide,by rw[he0]⟩
    rw[qc,kx,hofn2] at hz10;rw[if_neg (by simp only[nc] at *;omega)] at hS2;cbv;refine kv (α:=Nat×Int×List Int×Nat×Nat×Nat×Int×Int×Int) ([16,56,106,109,116]++[120,121,122,123,124,125,126,127,128,129,130,131,132,133,134,135,136]) [5]
     (fun(f,nn,cs,rl,c,pos,acc,hv,ai)=>[(20,.int .u64 nn),(6,.slice 5 .z 1 rl c)])
     (fun(f,nn,cs,rl,c,pos,acc,hv,ai)=>[(3,.one 3 [.int .i64 ai]),(4,.one 215 [.fn 121 [.ptr 3 .z 1 0,.ptr 2 .z 1 0],.int .u64 acc,.int .i64 hv,.fn 122 [.ptr 2 .z 1 0,.ptr 3 .z 1 0]]),(5,.buf 124 .i16 cs c)])
     (fun(f,nn,cs,rl,c,pos,acc,hv,ai)=>((nn=3∧readS b ms f true left2 cs pos=RES∧601≤f+2*cs.length)∨(nn≠3∧readS b ms f false left2 cs pos=RES∧600≤f+2*cs.length))∧cs.length≤256∧rl=cs.length∧RS b pos acc hv ai∧f≤g)
     (fun(f,nn,cs,rl,c,pos,acc,hv,ai)=>f) hw hm ?_ ?_
    ·refine Cv.genAt [20] [] (Cv.fold ([16,56,106,109,116]++[120,121,122,123,124,125,126,127,128,129,130,131,132,133,134,135,136]) 7 [5] (by exact Nat.le_refl _) (by exact Nat.le_of_ble_eq_true rfl) (by rfl) (by cbv) ?_)
     intro js;refine⟨(g,_,_,_,_,pp,_,_,_),?_,js,rfl⟩
     exact⟨.inl ⟨rfl,hS2,by omega⟩,by simp only[nc] at *;omega,hcl2.symm,hrsF,Nat.le_refl _⟩
    ·rintro⟨f5,nn,cs5,rl5,c5,pos5,acc5,hv5,ai5⟩ js ⟨hS5,hcl5,hrl5,hrs5,hf5⟩;clear hS2;cbv;split
     rotate_left
     ·rename_i hz11;rw[qc,ky] at hz11;obtain⟨_,hS6,hf6⟩:=hS5.resolve_left (fun h=>hz11 h.1);cbv;refine Cv.fold ([13,14,15,16,17,18,19,20]++[54,55,56,57,58,59,60,61,62,63,64,65,66,67,68,69,70,71,72,73,74,75,76,77,78,79,80,81,82,83,84,85,86,87,88,89,90,91,92,93,94,95,96,97,98,99,100,101,102,103,104,105,106,107,108,109,110,111,112,113,114,115,116,117,118,119,120,121,122,123,124,125,126,127,128,129,130,131,132,133,134,135,136]) 6 [5] (by exact Nat.le_refl _) (by exact Nat.le_of_ble_eq_true rfl) (by rfl) (by cbv) ?_
      intro js;refine⟨(f5,_,_,_,_,pos5,_,_,_),?_,js,rfl⟩
      refine⟨⟨hS6,hf6,hcl5,hrl5,hrs5,by omega⟩,?_⟩
      show f5<g+1
      omega
     ·rename_i hz11;rw[qc,kJ] at hz11;obtain⟨_,hS6,hf6⟩:=hS5.resolve_right (fun h=>h.1 hz11);obtain⟨g5,rfl⟩:∃g5,f5=g5+1:=⟨f5-1,by omega⟩;rw[readS] at hS6;have hrd5:=hrd pos5 c0 bl 2 acc5 hv5 ai5 rfl hby (by omega) hrs5 (by omega);cbv;refine ka (ρ:=[(4,.z),(3,.z),(2,.z),(1,.z)]) hrd5 ⟨by rfl,by rfl,by rfl,by cbv;exact⟨kd _,trivial⟩⟩ ?_
      rintro v H R js8 ⟨rfl,acc6,hv6,ai6,n2,e2,pos6,rfl,hrs6,hcase6,rfl⟩;cbv;rcases hcase6 with⟨rfl,hrd6,hpos6,hn0,hn1⟩|⟨rfl,hrd6⟩
      rotate_left
      ·have hrd6:rdN b pos5 2=none:=hrd6;rw[hrd6] at hS6;have he0:=hbad 10 (by decide) hS6.symm;rw[h100];cbv;exact .inl ⟨by rw[he0];decide,by rw[he0]⟩
      have hrd6:rdN b pos5 2=some n2:=hrd6;have hpos6:pos6=pos5+2:=hpos6;have hn1:n2<4:=hn1;rw[hrd6] at hS6;simp only at hS6
      rw[←hpos6] at hS6;have htn:vtoN n2=n2.toNat:=by simp only[qtoN]
      have hrep:vrep n2.toNat 0=List.replicate n2.toNat 0:=by simp only[qrep]
      have honto5:vonto cs5 rl5 (List.replicate n2.toNat 0)=cs5++List.replicate n2.toNat 0:=by rw[qonto,hrl5];simp
      obtain⟨cs7,hcs7⟩:∃cs7:List Int,cs7=cs5++List.replicate n2.toNat 0:=⟨_,rfl⟩;rw[←hcs7] at hS6 honto5;have hvln5:vln cs5=rl5:=by simp only[qln,hrl5]
      have ha5:vaddN rl5 n2.toNat=rl5+n2.toNat:=by simp only[qaddN]
      have hcl7:cs7.length=rl5+n2.toNat:=by rw[hcs7,List.length_append,List.length_replicate,hrl5]
      have hrl5b:rl5≤256:=by omega
      have hnN4:n2.toNat<4:=by omega
      obtain⟨rl7,hrl7⟩:∃rl7:Nat,rl7=rl5+n2.toNat:=⟨_,rfl⟩;rw[←hrl7] at ha5 hcl7;have hofn7:vofN rl7=(rl7:Int):=by simp only[qofN]
      clear hcs7;generalize hrepv:List.replicate n2.toNat (0:Int)=rep at *;generalize hnNv:n2.toNat=nN at *;rw[h00];cbv;rw[htn,hrep,ha5];refine⟨⟨hn0⟩,⟨by omega⟩,⟨by rw[hvln5];exact Nat.le_refl _⟩,⟨Nat.le_refl _⟩,⟨by omega⟩,?_⟩
      intro c7 js9 hle7;cbv;rw[honto5,ha5];generalize hz12:vc .gtr (vofN rl7) ms=z12;cases z12
      rotate_left
      ·rw[qc,kC,hofn7] at hz12;rw[if_pos (by simp only[nc] at *;omega)] at hS6;have he0:=hbad 11 (by decide) hS6.symm;cbv;exact .inl ⟨by rw[he0];decide,by rw[he0]⟩
      ·rw[qc,kx,hofn7] at hz12;rw[if_neg (by simp only[nc] at *;omega)] at hS6;cbv;refine Cv.fold ([16,56,106,109,116]++[120,121,122,123,124,125,126,127,128,129,130,131,132,133,134,135,136]) 7 [5] (by exact Nat.le_refl _) (by exact Nat.le_of_ble_eq_true rfl) (by rfl) (by cbv) ?_
       intro js;refine⟨(g5,_,_,_,_,pos6,_,_,_),?_,js,rfl⟩
       refine⟨⟨?_,by simp only[nc] at *;omega,hcl7.symm,hrs6,by omega⟩,?_⟩
       ·by_cases h3:n2=3
        ·rw[if_pos h3] at hS6;exact .inl ⟨h3,hS6,by omega⟩
        ·rw[if_neg h3] at hS6;exact .inr ⟨h3,hS6,by omega⟩
       ·show g5<g5+1
        omega
end Go.Proofs.Ytlclleihoampdaa
namespace Go.Proofs.Ytlclleihoampdaa
open Go Go.Sx
theorem kmn (x:Int) (n:Nat):x % 2^(n+1)=x % 2^n+x / 2^n % 2*2^n:=by
 have hp:(0:Int)<2^n:=Int.pow_pos (by decide);rw[Int.pow_succ,Int.emod_def x (2^n*2),Int.emod_def x (2^n),←Int.ediv_ediv_of_nonneg (Int.le_of_lt hp),Int.emod_def (x / 2^n) 2];generalize x / 2^n=q;generalize (2:Int)^n=m;rw[Int.sub_mul,Int.mul_assoc m 2,Int.mul_comm m (2*(q / 2)),Int.mul_comm m q];omega
theorem kcQ (l:List Int) (i:Nat) (x:Int):∀n,(∀j,j<n→l.getD (i+j) 0=x / 2^j % 2)→kK l i n=x % 2^n
 |0,_=>by simp[kK,Int.emod_one]
 |n+1,h=>by
  simp only[kK];rw[kcQ l i x n (fun j hj=>h j (by omega)),h n (by omega),kmn]
end Go.Proofs.Ytlclleihoampdaa
namespace Go.Proofs.Ytlclleihoampdaa
open Go Go.Sx Go.Proofs
theorem kbt {b W pre rest:List Int} {x:Int} {n j k:Nat} (hb:∀i,i<W.length→(ja b).getD i 0=W.getD i 0) (hlen:W.length≤8*b.length) (hW:W=pre++kr x n++rest) (hjk:j+k≤n) :
    rdN b (pre.length+j) k=some (x / 2^j % 2^k):=by
  have hl:pre.length+n≤W.length:=by rw[hW,List.length_append,List.length_append,kg];omega
  unfold rdN;rw[if_pos (by omega)];congr 1
  refine kcQ _ _ _ _ (fun t ht=>?_)
  rw[hb _ (by omega),hW,List.append_assoc,List.getD_eq_getElem?_getD,List.getElem?_append_right (by omega),List.getElem?_append_left (by rw[kg];omega)];have e:pre.length+j+t-pre.length=j+t:=by omega
  rw[e];have hjt:j+t<n:=by omega
  simp only[kr,List.getElem?_map,List.getElem?_range hjt,Option.map_some,Option.getD_some];rw[Int.pow_add,Int.ediv_ediv_of_nonneg (by exact Int.pow_nonneg (by omega))]
theorem ke4 {W behind:List Int} (hW:∀x∈W,kT x) (i:Nat) (hi:i<W.length):(ja (pack W++behind)).getD i 0=W.getD i 0:=by
  have hpl:=kF W;rw[khH _ _ (by rw[List.length_append];omega)];have h2:jY (pack W) i=W.getD i 0:=keL W hW i;rw[←h2];unfold jY;rw[if_pos (by omega),if_pos (by omega)];congr 2
  have e:((i:Int) / 8).toNat<(pack W).length:=by omega
  rw[List.getD_eq_getElem?_getD,List.getElem?_append_left e,←List.getD_eq_getElem?_getD]
theorem koV {b W pre rest:List Int} {v most:Int} (hb:∀i,i<W.length→(ja b).getD i 0=W.getD i 0) (hlen:W.length≤8*b.length) (hW:W=pre++ka5 v most++rest) (hv:0≤v∧v≤most) (hm:2≤most) :
    ∃v0,rdN b pre.length (kB most-1).toNat=some v0∧kdS b pre.length most v0=some (v,pre.length+(ka5 v most).length):=by
  obtain⟨mk,h1,h2,h3⟩:=jA (x:=most) (by omega);unfold kdS;have e1:(kB most).toNat=mk+1:=by omega
  have e2:(kB most-1).toNat=mk:=by omega
  have e3:(2:Int)^(mk+1)=2*2^mk:=by rw[Int.pow_succ];omega
  unfold ka5 at hW ⊢
  rw[e1,e2] at hW ⊢
  rw[e3] at hW ⊢ h3
  have hq0:(0:Int)<2^mk:=Int.pow_pos (by omega);generalize hq:(2:Int)^mk=q at *;have hz:∀x:Int,x / 2^0=x:=fun x=>by simp
  by_cases c1:v<2*q-1-most
  · rw[if_pos c1] at hW ⊢
    have hr:=kbt (j:=0) (k:=mk) hb hlen hW (by omega);rw[Nat.add_zero,hz,hq,Int.emod_eq_of_lt hv.1 (by omega)] at hr;refine⟨v,hr,?_⟩
    rw[if_neg (by omega),kg]
  · rw[if_neg c1] at hW ⊢
    by_cases c2:v<q
    · rw[if_pos c2] at hW ⊢
      have hr:=kbt (j:=0) (k:=mk) hb hlen hW (by omega);rw[Nat.add_zero,hz,hq,Int.emod_eq_of_lt hv.1 (by omega)] at hr;have hr2:=kbt (j:=mk) (k:=1) hb hlen hW (by omega);rw[hq,Int.ediv_eq_zero_of_lt hv.1 c2] at hr2;refine⟨v,hr,?_⟩
      rw[if_pos (by omega),hr2,kg];rfl
    · rw[if_neg c2] at hW ⊢
      have hr:=kbt (j:=0) (k:=mk) hb hlen hW (by omega);have hx:(v+(2*q-1-most)) % q=v+(2*q-1-most)-q:=by
        rw[←Int.emod_eq_of_lt (show 0≤v+(2*q-1-most)-q by omega) (show v+(2*q-1-most)-q<q by omega),Int.sub_emod,Int.emod_self,Int.sub_zero,Int.emod_emod_of_dvd _ (Int.dvd_refl _)]
      rw[Nat.add_zero,hz,hq,hx] at hr;have hr2:=kbt (j:=mk) (k:=1) hb hlen hW (by omega);have hd:(v+(2*q-1-most)) / q=1:=by
        have:v+(2*q-1-most)=(v+(2*q-1-most)-q)+q*1:=by omega
        rw[this,Int.add_mul_ediv_left _ _ (by omega),Int.ediv_eq_zero_of_lt (by omega) (by omega)];rfl
      rw[hq,hd] at hr2;refine⟨_,hr,?_⟩
      rw[if_pos (by omega),hr2,kg];have:((1:Int) % 2^1)=1:=by decide
      simp only[this,if_true];congr 2
      omega
theorem knS {b W:List Int} {ms left:Int} (hb:∀i,i<W.length→(ja b).getD i 0=W.getD i 0) (hlen:W.length≤8*b.length):∀(q f:Nat) (pre rest cs:List Int),W=pre++zr q++rest→((cs.length:Int)+q≤ms)→q+1≤f →
    ∃f',f≤f'+q+1∧f'<f∧readS b ms f true left cs pre.length=readS b ms f' false left (cs++List.replicate q 0) (pre.length+(zr q).length)
  |0,f,pre,rest,cs,hW,hms,hf=>small b W ms left hb hlen 0 (by omega) f pre rest cs hW hms hf
  |1,f,pre,rest,cs,hW,hms,hf=>small b W ms left hb hlen 1 (by omega) f pre rest cs hW hms hf
  |2,f,pre,rest,cs,hW,hms,hf=>small b W ms left hb hlen 2 (by omega) f pre rest cs hW hms hf
  | q+3,f,pre,rest,cs,hW,hms,hf=>by
    obtain⟨g,rfl⟩:∃g,f=g+1:=⟨f-1,by omega⟩;have hW2:W=pre++kr 3 2++(zr q++rest):=by rw[hW,zr];simp only[List.append_assoc]
    have hr:=kbt (j:=0) (k:=2) hb hlen hW2 (by omega);have e3:((3:Int) / 2^0 % 2^2)=3:=by decide
    rw[Nat.add_zero,e3] at hr;have e4:(3:Int).toNat=3:=rfl;obtain⟨f',h1,h2,h3⟩:=knS (left:=left) (ms:=ms) hb hlen q g (pre++kr 3 2) rest (cs++List.replicate 3 0) (by rw[hW,zr];simp only[List.append_assoc]) (by rw[List.length_append,List.length_replicate];push_cast at *;omega) (by omega);refine⟨f',by omega,by omega,?_⟩
    rw[readS,hr];simp only[e4];rw[if_neg (by rw[List.length_append,List.length_replicate];push_cast at *;omega),if_pos trivial];rw[List.length_append,kg] at h3;rw[h3,zr,List.length_append,kg,List.append_assoc,List.replicate_append_replicate];congr 1
    · rw[show 3+q=q+3 by omega]
    · omega
where
  small (b W:List Int) (ms left:Int) (hb:∀i,i<W.length→(ja b).getD i 0=W.getD i 0) (hlen:W.length≤8*b.length) (q:Nat) (hq:q<3) (f:Nat) (pre rest cs:List Int) (hW:W=pre++zr q++rest) (hms:(cs.length:Int)+q≤ms) (hf:q+1≤f) :
      ∃f',f≤f'+q+1∧f'<f∧readS b ms f true left cs pre.length=readS b ms f' false left (cs++List.replicate q 0) (pre.length+(zr q).length):=by
    obtain⟨g,rfl⟩:∃g,f=g+1:=⟨f-1,by omega⟩;rw[khM hq] at hW ⊢
    have hr:=kbt (j:=0) (k:=2) hb hlen hW (by omega);have e3:((q:Int) / 2^0 % 2^2)=q:=by simp only[Int.pow_zero,Int.ediv_one];omega
    rw[Nat.add_zero,e3] at hr;refine⟨g,by omega,by omega,?_⟩
    rw[readS,hr];simp only[Int.toNat_natCast];rw[if_neg (by rw[List.length_append,List.length_replicate];push_cast at *;omega),if_neg (by omega),kg]
theorem kfL (l:List Int):∀(m i:Nat),i+m=l.length→i<l.length→l.getD (l.length-1) 0≠0→∃q,i+q<l.length∧(∀j,j<q→l.getD (i+j) 0=0)∧l.getD (i+q) 0≠0
  |0,i,h,hi,_=>by omega
  | m + 1,i,h,hi,hl=>by
    by_cases h0:l.getD i 0=0
    · have hi1:i+1<l.length:=by
        apply Classical.byContradiction
        intro hc;have:i=l.length-1:=by omega
        rw[this] at h0;exact hl h0
      obtain⟨q,h1,h2,h3⟩:=kfL l m (i+1) (by omega) hi1 hl;refine⟨q+1,by omega,fun j hj=>?_,by rw[show i+(q+1)=i+1+q by omega];exact h3⟩
      cases j with
      |zero=>exact h0
      |succ j=>rw[show i+(j+1)=i+1+j by omega];exact h2 j (by omega)
    · exact⟨0,by omega,fun j hj=>by omega,h0⟩
theorem kmo {b W l:List Int} {ms pw:Int} (hb:∀i,i<W.length→(ja b).getD i 0=W.getD i 0) (hlen:W.length≤8*b.length) (h1:∀c∈l,-1≤c) (hlast:l.getD (l.length-1) 0≠0) (hms:(l.length:Int)≤ms+1) (hpw:kW l=pw) :
    ∀(m i f:Nat) (pre:List Int) (left:Int),i+m=l.length→left=pw-kW (l.take i)→W=pre++wgo none (l.drop i) left→2*m+1≤f→readS b ms f false left (l.take i) pre.length=(0,l,W.length):=by
  intro m;induction m using Nat.strongRecOn with
  | _ m ih=>
    intro i f pre left him hleft hW hf;obtain⟨g,rfl⟩:∃g,f=g+1:=⟨f-1,by omega⟩;by_cases hi:i<l.length
    · have hci : -1≤l.getD i 0:=h1 _ (by rw[List.getD_eq_getElem?_getD,List.getElem?_eq_getElem hi];exact List.getElem_mem _)
      have hts:=jl h1 i;have hts1:=jl h1 (i+1);have hs1:kW (l.take (i+1))=kW (l.take i)+km (l.getD i 0):=by rw[jw hi,jK]
      have hpn:=qs hci;have hlpos:0<left:=by
        have hn1:l.length-1<l.length:=by omega
        have ha:=jl (l:=l.take (l.length-1)) (fun c hc=>h1 c (List.mem_of_mem_take hc)) i;rw[List.take_take,Nat.min_eq_left (by omega)] at ha;have hb1:kW (l.take (l.length-1+1))=kW (l.take (l.length-1))+km (l.getD (l.length-1) 0):=by rw[jw hn1,jK]
        rw[Nat.sub_add_cancel (by omega),List.take_length] at hb1;have hcl : -1≤l.getD (l.length-1) 0:=h1 _ (by rw[List.getD_eq_getElem?_getD,List.getElem?_eq_getElem hn1];exact List.getElem_mem _);have:1≤km (l.getD (l.length-1) 0):=by unfold km;split<;>omega
        omega
      have hcl:l.getD i 0≤left:=by
        have:l.getD i 0≤km (l.getD i 0):=by unfold km;split<;>omega
        omega
      rw[kbM hi,wgo,if_neg (by omega),←List.append_assoc] at hW;obtain⟨v0,hr1,hr2⟩:=koV (v:=l.getD i 0+1) (most:=left+1) hb hlen hW (by omega) (by omega);rw[readS,if_neg (by omega),if_neg (by rw[List.length_take];omega),hr1];simp only
      rw[hr2];simp only[Int.add_sub_cancel];have htk:l.take i++[l.getD i 0]=l.take (i+1):=(jw hi).symm;rw[htk];have hleft2:left-km (l.getD i 0)=pw-kW (l.take (i+1)):=by omega
      have hpl:(pre++ka5 (l.getD i 0+1) (left+1)).length=pre.length+(ka5 (l.getD i 0+1) (left+1)).length:=List.length_append;by_cases h0:l.getD i 0=0
      · rw[if_neg (fun h=>h h0)]
        rw[if_pos h0] at hW;have hi1:i+1<l.length:=by
          apply Classical.byContradiction
          intro hc;have:i=l.length-1:=by omega
          rw[this] at h0;exact hlast h0
        rw[if_neg (by rw[List.length_take];omega)];obtain⟨q,hq1,hq2,hq3⟩:=kfL l (m-1) (i+1) (by omega) hi1 hlast;rw[kdl l _ q 0 (i+1) (by omega) (by omega) hq2 hq3,Nat.zero_add,←List.append_assoc] at hW;obtain⟨f',hf1,hf2,hf3⟩:=knS (ms:=ms) (left:=left-km (l.getD i 0)) hb hlen q g _ _ (l.take (i+1)) hW (by rw[List.length_take];omega) (by omega);rw[hpl] at hf3;rw[hf3];have htz:l.take (i+1)++List.replicate q 0=l.take (i+1+q):=by
          have:∀q,i+1+q≤l.length→(∀j,j<q→l.getD (i+1+j) 0=0)→l.take (i+1)++List.replicate q 0=l.take (i+1+q):=by
            intro q;induction q with
            |zero=>intro _ _;simp
            | succ q ihq=>
              intro h1 h2;have hz:=h2 q (by omega);rw[List.replicate_succ',←List.append_assoc,ihq (by omega) (fun j hj=>h2 j (by omega)),←Nat.add_assoc,jw (by omega),hz]
          exact this q (by omega) hq2
        have hsz:kW (l.take (i+1+q))=kW (l.take (i+1)):=by
          rw[←htz];have:∀(a:List Int) n,kW (a++List.replicate n 0)=kW a:=by
            intro a n;induction n with
            |zero=>simp
            | succ n ihn => rw[List.replicate_succ',←List.append_assoc,jK,ihn];have:km 0=0:=by decide
                            omega
          exact this _ _
        rw[htz];have:=ih (l.length-(i+1+q)) (by omega) (i+1+q) f' (pre++ka5 (l.getD i 0+1) (left+1)++zr q) (left-km (l.getD i 0)) (by omega) (by omega) hW (by omega);rw[List.length_append,List.length_append] at this;exact this
      · rw[if_pos h0]
        rw[if_neg h0] at hW;have:=ih (m-1) (by omega) (i+1) g (pre++ka5 (l.getD i 0+1) (left+1)) (left-km (l.getD i 0)) (by omega) hleft2 hW (by omega);rw[hpl] at this;exact this
    · have hie:i=l.length:=by omega
      subst hie;rw[List.take_length] at hleft ⊢
      rw[readS,if_pos (by omega)];rw[List.drop_length,wgo,List.append_nil] at hW;rw[hW]
set_option maxRecDepth 10000
set_option maxHeartbeats 40000000
theorem knm (b:List Int) (cap:Nat) (ml ms:Int) (hby:∀x∈b,isByte x) (hl:b.length≤140737488355328) (hml : -9223372036854775808≤ml∧ml≤9223372036854775807) (hms : -9223372036854775808≤ms∧ms≤9223372036854775807)
  (cs0:List Int) (log0 used0:Int) (hR:kb1 b ml ms=(cs0,log0,used0,0)) :
  Con Try.prog 70 [.slice 0 .z 1 b.length cap,.int .i64 ml,.int .i64 ms] [.ro .u8 b] (fun v H R=>R=[]∧∃c,v=.tup [.slice 1 .z 1 cs0.length c,.int .i64 log0,.int .i64 used0,.int .i64 0]∧H=[.ro .u8 b,.buf 124 .i16 cs0 c]):=by
 have h:Con Try.prog 70 [.slice 0 .z 1 b.length cap,.int .i64 ml,.int .i64 ms] [.ro .u8 b] (fun v H R=>R=[]∧∃c c0 acc hv ai,v=.tup [.slice 5 .z 1 cs0.length c,.int .i64 log0,.int .i64 used0,.int .i64 0] ∧
   H=[.ro .u8 b,.buf 5 .u8 b c0,.one 25 [.slice 1 .z 1 b.length c0],.one 3 [.int .i64 ai],.one 215 [.fn 121 [.ptr 3 .z 1 0,.ptr 2 .z 1 0],.int .u64 acc,.int .i64 hv,.fn 122 [.ptr 2 .z 1 0,.ptr 3 .z 1 0]],.buf 124 .i16 cs0 c]):=by
  refine kw (kV 6 (by simp) (kH ((khY b cap ml ms hby hl hml hms cs0 log0 used0 0 hR).mono ?_)))
  rintro v H R ⟨h1,h2,h3,⟨h4,_⟩|⟨_,h5,c,c0,acc,hv,ai,h6,h7⟩⟩
  ·exact absurd rfl h4
  ·exact⟨h5,h1,c,c0,acc,hv,ai,h6,h7⟩
 refine khC [0,5] rfl rfl (h.mono ?_)
 rintro v H R ⟨rfl,c,c0,acc,hv,ai,rfl,rfl⟩;exact⟨.tup [.slice 1 .z 1 cs0.length c,.int .i64 log0,.int .i64 used0,.int .i64 0],[.ro .u8 b,.buf 124 .i16 cs0 c],rfl,rfl,⟨rfl,rfl,trivial⟩,rfl,c,rfl,rfl⟩
theorem kmp (b:List Int) (cap:Nat) (ml ms:Int) (hby:∀x∈b,isByte x) (hl:b.length≤140737488355328) (hml : -9223372036854775808≤ml∧ml≤9223372036854775807) (hms : -9223372036854775808≤ms∧ms≤9223372036854775807)
  (cs0:List Int) (log0 used0 e0:Int) (hR:kb1 b ml ms=(cs0,log0,used0,e0)) (he:e0≠0) :
  Con Try.prog 70 [.slice 0 .z 1 b.length cap,.int .i64 ml,.int .i64 ms] [.ro .u8 b] (fun v H R=>R=[]∧v=.tup [.val (.slice none 0 0),.int .i64 0,.int .i64 0,.int .i64 e0]∧H=[.ro .u8 b]):=by
 refine kw (kV 1 (by simp) (kH ((khY b cap ml ms hby hl hml hms cs0 log0 used0 e0 hR).mono ?_)))
 rintro v H R ⟨h1,h2,h3,⟨_,h4⟩|⟨h4,_⟩⟩
 ·exact⟨h2,h1,h4,h3⟩
 ·exact absurd h4 he
theorem kcR {b:List Int} {pos n:Nat} {x:Int} (h:rdN b pos n=some x):pos+n≤8*b.length∧0≤x∧x<2^n:=by
 unfold rdN at h;split at h
 ·rename_i hp;have:=jd (ja b) (kaB b) pos n;rw[Option.some.injEq] at h;exact⟨hp,by omega,by omega⟩
 ·cases h
theorem ki5 {b:List Int} {pos pos':Nat} {most v x:Int} (hm:2≤most∧most≤4097) (hr:rdN b pos (kB most-1).toNat=some v) (h:kdS b pos most v=some (x,pos')):0≤x∧x≤8192∧pos'≤8*b.length:=by
 obtain⟨h1,h2,h3⟩:=kcR hr;obtain⟨k,hk,hk1,hk2⟩:=jA (x:=most) (by omega);have e1:(kB most-1).toNat=k:=by omega
 have e2:(kB most).toNat=k+1:=by omega
 have hp:(2:Int)^(k+1)=2^k*2:=Int.pow_succ _ _;rw[e1] at h1 h3;unfold kdS at h;rw[e1,e2,hp] at h;split at h
 ·split at h
  ·cases h
  ·rename_i top ht;have h4:=(kcR ht).1;simp only[Option.some.injEq,Prod.mk.injEq] at h;obtain⟨h5,h6⟩:=h;split at h5
   ·omega
   ·omega
 ·simp only[Option.some.injEq,Prod.mk.injEq] at h;omega
theorem kbu (b:List Int) (ms:Int):∀(f:Nat) (fl:Bool) (left:Int) (cs:List Int) (pos:Nat) (cs':List Int) (pos':Nat),left≤4096→(∀c∈cs,jo c)→pos≤8*b.length →
  readS b ms f fl left cs pos=(0,cs',pos')→(∀c∈cs',jo c)∧pos'≤8*b.length
 |0,fl,left,cs,pos,cs',pos',h1,h2,h3,h=>by
  simp only[readS,Prod.mk.injEq] at h;obtain⟨_,rfl,rfl⟩:=h;exact⟨h2,h3⟩
 | f+1,false,left,cs,pos,cs',pos',h1,h2,h3,h=>by
  rw[readS] at h;split at h
  ·simp only[Prod.mk.injEq] at h;obtain⟨_,rfl,rfl⟩:=h;exact⟨h2,h3⟩
  rename_i hl0;split at h
  ·simp at h
  split at h
  ·simp at h
  rename_i v hv;split at h
  ·simp at h
  rename_i x p2 hx;obtain⟨h4,h5,h6⟩:=ki5 (by omega) hv hx;have hcs:∀c∈cs++[x-1],jo c:=fun c hc=>(List.mem_append.1 hc).elim (h2 c) (fun e=>by rw[List.mem_singleton.1 e];unfold jo;omega)
  have hpn:0≤km (x-1):=by unfold km;split<;>omega
  split at h
  ·exact kbu b ms f false _ _ _ cs' pos' (by omega) hcs h6 h
  ·split at h
   ·simp at h
   ·exact kbu b ms f true _ _ _ cs' pos' (by omega) hcs h6 h
 |f+1,true,left,cs,pos,cs',pos',h1,h2,h3,h=>by
  rw[readS] at h;split at h
  ·simp at h
  rename_i n hn;have h4:=(kcR hn).1;have hcs:∀c∈cs++List.replicate n.toNat 0,jo c:=fun c hc=>(List.mem_append.1 hc).elim (h2 c) (fun e=>by rw[(List.mem_replicate.1 e).2];unfold jo;omega)
  split at h
  ·simp at h
  split at h
  ·exact kbu b ms f true _ _ _ cs' pos' h1 hcs h4 h
  ·exact kbu b ms f false _ _ _ cs' pos' h1 hcs h4 h
theorem kmq {b cs:List Int} {ml ms log used:Int} (h:kb1 b ml ms=(cs,log,used,0)):(∀c∈cs,jo c)∧0≤used∧used≤b.length∧5≤log∧log≤12:=by
 unfold kb1 at h;split at h
 ·simp at h
 rename_i hml;split at h
 ·simp at h
 rename_i x hx;obtain⟨h1,h2,h3⟩:=kcR hx;split at h
 ·simp at h
 rename_i hxm;split at h
 ·simp only[Prod.mk.injEq] at h;rename_i he;exact absurd h.2.2.2 he
 rename_i he;simp only[Prod.mk.injEq] at h;obtain⟨rfl,rfl,rfl,_⟩:=h;have hpl:=kag (log:=x+5) (by omega);have:=kbu b ms 600 false _ [] 4 _ _ hpl.2 (by simp) (by omega) (show readS b ms 600 false (2^(x+5).toNat) [] 4=(0,(readS b ms 600 false (2^(x+5).toNat) [] 4).2.1,(readS b ms 600 false (2^(x+5).toNat) [] 4).2.2) by
  rw[show(0:Int)=(readS b ms 600 false (2^(x+5).toNat) [] 4).1 by rw[Decidable.not_not.1 he]])
 refine⟨this.1,?_,?_,by omega,by omega⟩
 ·have:=this.2;omega
 ·have:=this.2;omega
theorem qY {a:Nat}:∀{b:Nat},a≤b→(2:Int)^a≤2^b
  | 0, h => by obtain rfl:a=0:=by omega
               exact Int.le_refl _
  | b + 1,h=>by
    by_cases e:a=b+1
    · subst e;exact Int.le_refl _
    · have:=qY (a:=a) (b:=b) (by omega)
      have hp:(0:Int)<2^b:=Int.pow_pos (by omega);rw[Int.pow_succ];omega
end Go.Proofs.Ytlclleihoampdaa
