import Derived.Test.YtlclleihoampdaaB2
import Derived.Test.YtlclleihoampdaaB3
import Derived.Test.YtlclleihoampdaaFX
import Derived.Test.YtlclleihoampdaaB1
import Derived.Test.YtlclleihoampdaaFD
set_option linter.unusedVariables false
set_option linter.unusedSimpArgs false
namespace Go.Proofs.Ytlclleihoampdaa
open Go Go.Sx Go.Proofs
def kh7 (c:Int):Prop:=0≤c∧c<4294967296
theorem keZ {l:List Int} (h:∀x∈l,kh7 x):∀i,0≤qG l i∧qG l i≤4294967295*i
 |0=>by simp[qG,kO]
 |i+1=>by
  have ih:=keZ h i;have hs:0≤l.getD i 0∧l.getD i 0<4294967296:=by rcases jm (l:=l) i with hh|hh;exact h _ hh;omega
  simp only[qG,kO] at *
  push_cast
  omega
set_option maxRecDepth 10000
set_option maxHeartbeats 40000000
theorem ki8 (l:List Int) (log:Int) (cap:Nat) (hl:∀c∈l,kh7 c) (hlog : -9223372036854775808≤log∧log≤9223372036854775807) (hlen:l.length≤9223372036854775807) :
  Con Try.prog 67 [.slice 0 .z 1 l.length cap,.int .i64 log] [.ro .u32 l] (fun v H R=>R=[]∧((¬kgg l log∧v=.tup [.val (.slice none 0 0),.int .i64 2]∧H=[.ro .u32 l]) ∨
   (kgg l log∧∃c,Fair l c log∧v=.tup [.slice 1 .z 1 c.length c.length,.int .i64 0]∧H=[.ro .u32 l,.ints 124 .i16 c]))):=by
 refine kw (kH (kl kD kpc ?_))
 intro vb vc vw vtoN vofN vaddN _ _ _ _ vgd vst vln vrep _ _ _ _ _ _ _ hw qb qc qw qtoN qofN qaddN _ _ _ _ qgd qst qln qrep _ _ _ _ _ _ _;have hm:=kD;generalize Try.prog=P at *;have hA:kgg l log↔(l.length≤256∧5≤log∧log≤12∧1≤jW l l.length∧jW l l.length≤2^log.toNat):=Iff.rfl;have hl0:∀x∈l,0≤x:=fun x hx=>(hl x hx).1
 have hfair:=fun out free all left best=>@kne l out log free all left best hl0
 have hge:∀s,0≤l.getD s 0∧l.getD s 0<4294967296:=fun s=>by rcases jm (l:=l) s with h|h;exact hl _ h;omega
 generalize Fair l=FA at *;have hml:=fun free all (hf:0≤free) (ha:0<all)=>kgh (l:=l) (free:=free) (all:=all) hl0 hf ha
 generalize hAb:kgg l log=AB at *;have hsn:=kcg l;have hss:∀i,jW l (i+1)=jW l i+kcL l i:=fun _=>rfl
 have hs0:jW l 0=0:=rfl;have hpd:∀i,kcL l i=if l.getD i 0>0 then 1 else 0:=fun _=>rfl
 have hfs:∀i,qG l (i+1)=qG l i+l.getD i 0:=fun _=>rfl
 have hf0:qG l 0=0:=rfl;have hfr:=keZ hl;have hlr:=kbr l;have hls:∀i:Nat,qC l (i+1)=if l.getD i 0>0 then(i:Int) else qC l i:=fun _=>rfl
 have hl00:qC l 0=0:=rfl;have hlpos:=kdk l;have hone:∀s n,s<n→l.getD s 0≤qG l n:=fun s n h=>kbq (f:=fun s=>l.getD s 0) (fun i _=>(hge i).1) h
 have hfm:∀q m,q≤m→qG l q≤qG l m:=fun q m h=>kbN (fun i _=>(hge i).1) h
 have hmd:∀free all s,kah l free all s=if l.getD s 0=0 then 0 else l.getD s 0*free / all:=fun _ _ _=>rfl
 have hsd:∀free all s,jG l free all s=if l.getD s 0=0 then 0 else 1+l.getD s 0*free / all:=fun _ _ _=>rfl
 generalize jW l=SN at *;generalize kcL l=PI at *;generalize qG l=SF at *;generalize qC l=LP at *;generalize kah l=MF at *;generalize jG l=SH at *;generalize hn:l.length=n at *;have hto:∀i:Nat,vtoN (i:Int)=i:=fun i=>by simp only[qtoN,Int.toNat_natCast]
 have hadd0:∀i,vaddN 0 i=i:=fun i=>by simp only[qaddN,Nat.zero_add]
 have hvln:vln l=n:=by simp only[qln,hn]
 have hvgd:∀i,vgd l i=l.getD i 0:=fun i=>by simp only[qgd]
 cbv;refine kv (α:=Int×Int×Int×Int) ([9,10]++[20,21,22,23,24,25,26,27,28,29,30,31,32,33]) [] (fun(k,m,a,la)=>[(19,.int .i64 k),(6,.int .i64 m),(7,.int .u64 a),(8,.int .i64 la)]) (fun _=>[])
  (fun(k,m,a,la)=>∃i:Nat,k=i∧i≤n∧m=SN i∧la=LP i∧(i≤256→a=SF i)) (fun(k,_)=>n-k.toNat) hw hm ?_ ?_
 ·refine Cv.genAt [19,6,7,8] [] (Cv.fold ([9,10]++[20,21,22,23,24,25,26,27,28,29,30,31,32,33]) 1 [] (by exact Nat.le_refl _) (by exact Nat.le_of_ble_eq_true rfl) (by rfl) (by cbv) ?_)
  intro js;refine⟨(_,_,_,_),?_,js,rfl⟩
  exact⟨0,rfl,by omega,hs0.symm,hl00.symm,fun _=>hf0.symm⟩
 ·rintro⟨k,m,a,la⟩ js ⟨i,hk,hi,hm1,hla,ha⟩;have hsi:=hsn i;cbv;split
  ·rename_i hlt;have hlt:i<n:=by rw[qc,ko] at hlt;simp only[qofN] at hlt;simp only[nc] at *;omega
   have hti:vtoN k=i:=by rw[hk];exact hto i
   have hinR:0≤k∧k<(n:Int):=by simp only[nc] at *;omega
   obtain⟨k1,hk1⟩:∃k1:Int,k1=((i+1:Nat):Int):=⟨_,rfl⟩;have ek:vb .add .i64 k 1=k1:=by simp only[nc] at *;rw[qb,kh (by omega) (by omega)];omega
   have em:vb .add .i64 m 1=m+1:=by simp only[nc] at *;rw[qb,kh (by omega) (by omega)]
   have hmu:n-k1.toNat<n-k.toNat:=by simp only[nc] at *;omega
   have hsi1:=hss i;have hls1:=hls i;have hfs1:=hfs i;have hgi:=hge i;have hfri:=hfr i;rw[hpd] at hsi1;cbv;rw[hti,hadd0,hvgd];refine⟨⟨hinR⟩,⟨by omega⟩,⟨by omega⟩,?_⟩
   generalize hci:l.getD i 0=ci at *;generalize hz:vc .gtr ci 0=z;cases z
   ·rw[qc,kx] at hz;rw[if_neg (by omega)] at hsi1 hls1;cbv;rw[ek];refine Cv.fold ([9,10]++[20,21,22,23,24,25,26,27,28,29,30,31,32,33]) 1 [] (by exact Nat.le_refl _) (by exact Nat.le_of_ble_eq_true rfl) (by rfl) (by cbv) ?_
    intro js;refine⟨(_,_,_,_),?_,js,rfl⟩
    exact⟨⟨i+1,hk1,hlt,by omega,by rw[hls1];exact hla,fun h=>by have:=ha (by omega);omega⟩,hmu⟩
   ·rw[qc,kC] at hz;rw[if_pos (by omega)] at hsi1 hls1;have ew:vw .u64 ci=ci:=by rw[qw];exact wrap_u64 (by omega) (by omega)
    cbv;rw[ek,em,ew];refine Cv.fold ([9,10]++[20,21,22,23,24,25,26,27,28,29,30,31,32,33]) 1 [] (by exact Nat.le_refl _) (by exact Nat.le_of_ble_eq_true rfl) (by rfl) (by cbv) ?_
    intro js;refine⟨(_,_,_,_),?_,js,rfl⟩
    refine⟨⟨i+1,hk1,hlt,by omega,by rw[hls1];exact hk,fun h=>?_⟩,hmu⟩
    have:=ha (by omega);simp only[nc] at *;rw[qb,kjD (by omega) (by omega)];omega
  ·rename_i hge1;have hin:i=n:=by rw[qc,kb] at hge1;simp only[qofN] at hge1;simp only[nc] at *;omega
   subst hin;have hbad:¬AB→SV.tup [SV.val (Value.slice none 0 0),.lit .i64 2]=SV.tup [SV.val (Value.slice none 0 0),.lit .i64 2]:=fun _=>rfl
   cbv;generalize h1:vc .gtr (vofN i) 256=z1;cases z1
   rotate_left
   ·rw[qc,qofN,kC] at h1;cbv;exact .inl ⟨fun h=>by have:=(hA.1 h).1;simp only[nc] at *;omega,trivial⟩
   rw[qc,qofN,kx] at h1;cbv;generalize h2:vc .lss log 5=z2;cases z2
   rotate_left
   ·rw[qc,ko] at h2;cbv;exact .inl ⟨fun h=>by have:=(hA.1 h).2.1;omega,trivial⟩
   rw[qc,kb] at h2;cbv;generalize h3:vc .gtr log 12=z3;cases z3
   rotate_left
   ·rw[qc,kC] at h3;cbv;exact .inl ⟨fun h=>by have:=(hA.1 h).2.2.1;omega,trivial⟩
   rw[qc,kx] at h3;cbv;generalize h4:vc .eql m 0=z4;cases z4
   rotate_left
   ·rw[qc,kJ] at h4;cbv;exact .inl ⟨fun h=>by have:=(hA.1 h).2.2.2.1;omega,trivial⟩
   rw[qc,ky] at h4;have e2:vw .u64 log=log:=by rw[qw];exact wrap_u64 (by omega) (by omega)
   have e3:vb .shl .i64 1 log=2^log.toNat:=by rw[qb,qK (by omega) (by omega)]
   have hpl:=kag (log:=log) (by omega);generalize hpw:(2:Int)^log.toNat=pw at *;cbv;rw[e2,e3];refine⟨⟨by omega⟩,?_⟩
   generalize h5:vc .gtr m pw=z5;cases z5
   rotate_left
   ·rw[qc,kC] at h5;cbv;exact .inl ⟨fun h=>by have:=(hA.1 h).2.2.2.2;omega,trivial⟩
   rw[qc,kx] at h5;have hAB:AB:=hA.2 ⟨by simp only[nc] at *;omega,by omega,by omega,by omega,by omega⟩;have ha:=ha (by simp only[nc] at *;omega);have hlri:=hlr i;have hlp:=hlpos i (by omega);obtain⟨Ln,hLn⟩:∃Ln:Nat,la+1=Ln:=⟨(la+1).toNat,by omega⟩;have e4:vb .add .i64 la 1=(Ln:Int):=by simp only[nc] at *;rw[qb,kh (by omega) (by omega)];omega
   have e5:vtoN (Ln:Int)=Ln:=hto Ln;obtain⟨free,hfree⟩:∃free:Int,free=pw-m:=⟨_,rfl⟩;have e6:vb .sub .i64 pw m=free:=by rw[qb,ku (by omega) (by omega)];omega
   have e7:vw .u64 free=free:=by rw[qw];exact wrap_u64 (by omega) (by omega)
   have e8:vrep Ln 0=List.replicate Ln 0:=by simp only[qrep]
   have hLni:Ln≤i:=by simp only[nc] at *;omega
   have hL1:1≤Ln:=by simp only[nc] at *;omega
   have hlaN:la.toNat+1=Ln:=by simp only[nc] at *;omega
   have hallp:0<a:=by
    have:=hone (LP i).toNat i (by simp only[nc] at *;omega);omega
   generalize hlz:((Ln:Nat):Int)=lz at *;cbv;rw[e4,e5,e2,e3,e6,e7,e8];obtain⟨rz,hrz⟩:∃rz:List Int,rz=List.replicate Ln (0:Int):=⟨_,rfl⟩;rw[←hrz];simp only[nc] at *;refine⟨⟨by omega⟩,⟨by omega⟩,⟨by omega⟩,⟨by omega⟩,⟨by omega⟩,?_⟩
   have hf0:0≤free:=by omega
   refine kv (α:=Int×Int×Int×List Int) ([15,16]++[70,71,72,73,74,75,76,77,78,79,80,81,82,83,84,85,86,87,88,89,90,91,92,93,94,95,96,97,98,99,100,101,102,103,104,105,106]) []
    (fun(k,le,be,out)=>[(69,.int .i64 k),(12,.int .i64 le),(14,.int .i64 be)])
    (fun(k,le,be,out)=>[(1,.ints 124 .i16 out)])
    (fun(k,le,be,out)=>∃q b:Nat,k=q∧q≤Ln∧be=b∧b<Ln∧0<l.getD b 0∧le=free-kO (MF free a) q∧out.length=Ln∧∀s,out.getD s 0=if s<q then SH free a s else 0)
    (fun(k,le,be,out)=>Ln-k.toNat) hw hm ?_ ?_
   ·refine Cv.genAt [69] [] (Cv.fold ([15,16]++[70,71,72,73,74,75,76,77,78,79,80,81,82,83,84,85,86,87,88,89,90,91,92,93,94,95,96,97,98,99,100,101,102,103,104,105,106]) 2 [] (by exact Nat.le_refl _) (by exact Nat.le_of_ble_eq_true rfl) (by rfl) (by cbv) ?_)
    intro js;refine⟨(_,_,_,_),?_,js,rfl⟩
    refine⟨0,la.toNat,rfl,by omega,by omega,by omega,by rw[hla];exact hlp,by simp[kO],by rw[hrz];simp,fun s=>?_⟩
    rw[hrz,if_neg (by omega),List.getD_eq_getElem?_getD,List.getElem?_replicate];split<;>rfl
   ·rintro⟨k2,le,be,out⟩ js ⟨q,b,hk2,hq,hbe,hbL,hbp,hle,hol,hog⟩;have hvo:vln out=Ln:=by rw[qln];exact hol
    have htb:vtoN be=b:=by rw[hbe];exact hto b
    have hmq:=(hml free a hf0 hallp q);have hsq:kO (MF free a) (q+1)=kO (MF free a) q+MF free a q:=rfl;have hSle:kO (MF free a) q≤free:=by
     have h1:=hfm q i (by omega);apply Classical.byContradiction
     intro h;have h2:a*(free+1)≤a*kO (MF free a) q:=Int.mul_le_mul_of_nonneg_left (by omega) (by omega);have h3:free*SF q≤free*a:=Int.mul_le_mul_of_nonneg_left (by omega) hf0;rw[Int.mul_add,Int.mul_comm a free] at h2;omega
    cbv;split
    rotate_left
    ·rename_i hlt2;have hqe:q=Ln:=by rw[qc,kb] at hlt2;simp only[qofN] at hlt2;simp only[nc] at *;omega
     subst hqe;obtain⟨f1,f2,f3,f4,f5⟩:=hfair out free a le b hAB (by omega) ha (by omega) (fun s hs=>by rw[hog,if_pos (by omega)]) (by rw[hol];exact hle) (by omega) hbp;have hinb:0≤be∧be<(q:Int):=by simp only[nc] at *;omega
     have hgo:vgd out b=out.getD b 0:=by simp only[qgd]
     generalize hob:out.getD b 0=ob at *;have ew:vw .i16 le=le:=by rw[qw];exact kbs (by omega) (by omega)
     have ea:vb .add .i16 ob le=ob+le:=by rw[qb,knj (by omega) (by omega)]
     obtain⟨out2,hout2⟩:∃out2:List Int,out2=out.set b (ob+le):=⟨_,rfl⟩;have est:vst out b (ob+le)=out2:=by rw[qst,hout2]
     have hol2:out2.length=q:=by rw[hout2,List.length_set];exact hol
     rw[←hout2] at f5;generalize hoe:ob+le=oe at *;clear hfair;cbv;rw[htb,hgo,ew,ea,est];refine⟨⟨hinb⟩,⟨by omega⟩,⟨hinb⟩,⟨by omega⟩,.inr ⟨hAB,out2,f5,?_,?_⟩⟩
     ·rw[hol2];rfl
     ·rfl
    ·rename_i hlt2;have hqe:q<Ln:=by rw[qc,ko] at hlt2;simp only[qofN] at hlt2;simp only[nc] at *;omega
     have htq:vtoN k2=q:=by rw[hk2];exact hto q
     have hin1:0≤k2∧k2<(i:Int):=by simp only[nc] at *;omega
     have hin2:0≤k2∧k2<(Ln:Int):=by simp only[nc] at *;omega
     have hin3:0≤be∧be<(i:Int):=by simp only[nc] at *;omega
     obtain⟨k3,hk3⟩:∃k3:Int,k3=((q+1:Nat):Int):=⟨_,rfl⟩;have ek:vb .add .i64 k2 1=k3:=by simp only[nc] at *;rw[qb,kh (by omega) (by omega)];omega
     have hmu:Ln-k3.toNat<Ln-k2.toNat:=by simp only[nc] at *;omega
     have hgq:=hge q;have hone1:=hone q i (by simp only[nc] at *;omega);have hmdq:=hmd free a q;have hsdq:=hsd free a q;cbv;rw[htq,hadd0,hvgd];refine⟨⟨hin1⟩,⟨by omega⟩,⟨by omega⟩,?_⟩
     generalize hz:vc .eql (l.getD q 0) 0=z;cases z
     rotate_left
     ·rw[qc,kJ] at hz;rw[if_pos hz] at hmdq hsdq;cbv;rw[ek];refine Cv.fold ([15,16]++[70,71,72,73,74,75,76,77,78,79,80,81,82,83,84,85,86,87,88,89,90,91,92,93,94,95,96,97,98,99,100,101,102,103,104,105,106]) 2 [] (by exact Nat.le_refl _) (by exact Nat.le_of_ble_eq_true rfl) (by rfl) (by cbv) ?_
      intro js;refine⟨(_,_,_,_),?_,js,rfl⟩
      refine⟨⟨q+1,b,hk3,hqe,hbe,hbL,hbp,by rw[hsq,hmdq];omega,hol,fun s=>?_⟩,hmu⟩
      rw[hog];by_cases h:s<q
      ·rw[if_pos h,if_pos (by omega)]
      ·by_cases h2:s=q
       ·subst h2;rw[if_neg h,if_pos (by omega),hsdq]
       ·rw[if_neg h,if_neg (by omega)]
     ·rw[qc,ky] at hz;rw[if_neg hz] at hmdq hsdq;have hbl:=hge b;have hp0:0≤l.getD q 0*free:=Int.mul_nonneg hgq.1 hf0;have hp1:l.getD q 0*free≤4294967296*4096:=Int.mul_le_mul (by omega) (by omega) hf0 (by omega);have hp2:l.getD q 0*free / a≤free:=by
       have h1:l.getD q 0*free≤a*free:=Int.mul_le_mul_of_nonneg_right (by omega) hf0;have h2:=Int.ediv_le_ediv hallp h1;rw[Int.mul_ediv_cancel_left _ (by omega)] at h2;exact h2
      have hp3:=Int.ediv_nonneg hp0 (b:=a) (by omega);have ew:vw .u64 (l.getD q 0)=l.getD q 0:=by rw[qw];exact wrap_u64 (by omega) (by omega)
      have em:vb .mul .u64 (l.getD q 0) free=l.getD q 0*free:=by rw[qb,knk (by omega) (by omega)]
      have eq1:vb .quo .u64 (l.getD q 0*free) a=l.getD q 0*free / a:=by rw[qb,knl (by omega) (by omega) (by omega)]
      obtain⟨mo,hmo⟩:∃mo:Int,mo=l.getD q 0*free / a:=⟨_,rfl⟩;rw[←hmo] at hp2 hp3 eq1 hmdq hsdq;have ew2:vw .i64 mo=mo:=by rw[qw];exact wrap_i64 (by omega) (by omega)
      have ea:vb .add .i64 1 mo=1+mo:=by rw[qb,kh (by omega) (by omega)]
      have ew3:vw .i16 (1+mo)=1+mo:=by rw[qw];exact kbs (by omega) (by omega)
      have es:vb .sub .i64 le mo=le-mo:=by rw[qb,ku (by omega) (by omega)]
      obtain⟨out2,hout2⟩:∃out2:List Int,out2=out.set q (1+mo):=⟨_,rfl⟩;have est:vst out q (1+mo)=out2:=by rw[qst,hout2]
      have hol2:out2.length=Ln:=by rw[hout2,List.length_set];exact hol
      have hog2:∀s,out2.getD s 0=if s<q+1 then SH free a s else 0:=by
       intro s;rw[hout2,List.getD_eq_getElem?_getD,List.getElem?_set,hol];by_cases h:q=s
       ·subst h;rw[if_pos rfl,if_pos hqe,if_pos (by omega),hsdq];rfl
       ·rw[if_neg h,←List.getD_eq_getElem?_getD,hog];by_cases h2:s<q
        ·rw[if_pos h2,if_pos (by omega)]
        ·rw[if_neg h2,if_neg (by omega)]
      have hlem:le-mo=free-kO (MF free a) (q+1):=by rw[hsq,hmdq,hle];omega
      generalize hlq:l.getD q 0=lq at *;generalize hlb:l.getD b 0=lb at *;generalize hom:1+mo=om at *;generalize hlm:le-mo=lm at *;cbv;rw[htq,htb,hadd0,hadd0,hvgd,hvgd,hlq,hlb,ew,em,eq1,ew2,ea,ew3,es,est];refine⟨⟨hin1⟩,⟨by omega⟩,⟨by omega⟩,⟨by omega⟩,⟨hin2⟩,⟨by omega⟩,⟨hin1⟩,⟨by omega⟩,⟨by omega⟩,⟨hin3⟩,⟨by omega⟩,⟨by omega⟩,?_⟩
      generalize hz2:vc .gtr lq lb=z2;cases z2
      ·cbv;rw[ek];refine Cv.fold ([15,16]++[70,71,72,73,74,75,76,77,78,79,80,81,82,83,84,85,86,87,88,89,90,91,92,93,94,95,96,97,98,99,100,101,102,103,104,105,106]) 2 [] (by exact Nat.le_refl _) (by exact Nat.le_of_ble_eq_true rfl) (by rfl) (by cbv) ?_
       intro js;refine⟨(_,_,_,_),?_,js,rfl⟩
       exact⟨⟨q+1,b,hk3,hqe,hbe,hbL,by omega,hlem,hol2,hog2⟩,hmu⟩
      ·cbv;rw[ek];refine Cv.fold ([15,16]++[70,71,72,73,74,75,76,77,78,79,80,81,82,83,84,85,86,87,88,89,90,91,92,93,94,95,96,97,98,99,100,101,102,103,104,105,106]) 2 [] (by exact Nat.le_refl _) (by exact Nat.le_of_ble_eq_true rfl) (by rfl) (by cbv) ?_
       intro js;refine⟨(_,_,_,_),?_,js,rfl⟩
       exact⟨⟨q+1,q,hk3,hqe,hk2,hqe,by omega,hlem,hol2,hog2⟩,hmu⟩
set_option maxRecDepth 100000
inductive RT (A B C:Nat→Int) (N:Nat) (told:List Int):Nat→List Int→List Int→Prop
  |nil:RT A B C N told told.length [-1,-1] []
  |first {i:Nat} {q bs:List Int} {k:Nat} (h:RT A B C N told (i+1) q bs) (hi:i<told.length) (hq:q.getD (i % 2) 0<0) (hk:k<N) (ha:A k=told.getD i 0) (hb:i+2=told.length→0<B k):RT A B C N told i (q.set (i % 2) k) bs
  |step {i:Nat} {q bs:List Int} {k:Nat} (h:RT A B C N told (i+1) q bs) (hi:i<told.length) (hq:0≤q.getD (i % 2) 0) (hk:k<N) (ha:kcj A B C (told.getD i 0) (q.getD (i % 2) 0) k):RT A B C N told i (q.set (i % 2) k) (bs++kr (q.getD (i % 2) 0-C k) (B k).toNat)
def ke5 (hd q bs:List Int):List Int:=hd++pack (bs++kr (IntKind.u64.wrap (q.getD 1 0)) 6++kr (IntKind.u64.wrap (q.getD 0 0)) 6++[1])
def kdM (A B C:Nat→Int) (N:Nat) (told hd:List Int):Prop:=
  (∃(i:Nat) (q bs:List Int),i<told.length∧RT A B C N told (i+1) q bs∧((q.getD (i % 2) 0<0∧∀k,k<N→A k=told.getD i 0→i+2=told.length∧¬0<B k)∨(0≤q.getD (i % 2) 0∧∀k,k<N→¬kcj A B C (told.getD i 0) (q.getD (i % 2) 0) k))) ∨
  ∃q bs:List Int,RT A B C N told 0 q bs∧¬(bst 256 (ke5 hd q bs)=some told∧(ke5 hd q bs).length≤127)
theorem kfM (x:Int):0≤IntKind.u64.wrap x∧IntKind.u64.wrap x<2^64:=by
  simp only[IntKind.wrap,IntKind.bits,IntKind.signed];simp only[Bool.false_eq_true,if_false,Bool.false_and,ite_false];omega
theorem kh8:∀{a b:List Int},(∀c∈a,kR c)→(∀c∈b,kR c)→List.map (fun n=>UInt8.ofNat n.toNat) a=List.map (fun n=>UInt8.ofNat n.toNat) b→a=b
  |[],[],_,_,_=>rfl
  |[],y::b,_,_,h=>by simp at h
  |x::a,[],_,_,h=>by simp at h
  | x::a,y::b,ha,hb,h=>by
    rw[List.map_cons,List.map_cons,List.cons.injEq] at h;have h1:=ha x (by simp);have h2:=hb y (by simp);have h3:=congrArg UInt8.toNat h.1;rw[UInt8.toNat_ofNat',UInt8.toNat_ofNat'] at h3;unfold kR at h1 h2;rw[kh8 (fun c hc=>ha c (List.mem_cons_of_mem _ hc)) (fun c hc=>hb c (List.mem_cons_of_mem _ hc)) h.2];congr 1
    omega
theorem kh9 {q:List Int} {k N:Nat} {ki:Int} (hql:q.length=2) (hqr:∀j:Nat,-1≤q.getD j 0∧q.getD j 0<N) (kN:Nat) (h1:ki=k) (h2:k<N) :
    (q.set kN ki).length=2∧∀j:Nat,-1≤(q.set kN ki).getD j 0∧(q.set kN ki).getD j 0<N:=by
  refine⟨by rw[List.length_set];exact hql,fun j=>?_⟩
  rcases kaj q kN j ki with⟨h,_⟩|h
  · rw[h];omega
  · rw[h];exact hqr j
theorem kgv (told cs:List Int) (capT capC:Nat) (N:Nat) (A B C:Nat→Int) (ht:∀c∈told,kR c) (htl:told.length≤256) (hcl:cs.length≤256) (hN1:1≤N) (hN4:N≤4096) (hbnd:∀k,k<N→0≤B k∧B k≤12∧0≤C k∧C k<4096)
    (hwl:(kZ cs 6).length≤5000) (hwb:∀b∈kZ cs 6,kT b)
    (hT:Con Try.prog 66 [.slice 0 .z 1 cs.length capC,.int .i64 6] [.ro .i16 cs] (fun v H R=>R=[]∧v=.tup [.slice 1 .z 3 N N,.int .i64 0]∧H=[.ro .i16 cs,.arr 79 3 N (fun m=>[.int .u8 (A m),.int .u8 (B m),.int .u16 (C m)])]))
    (hW:Con Try.prog 68 [.slice 0 .z 1 cs.length capC,.int .i64 6] [.ro .i16 cs] (fun v H R=>R=[2]∧∃l' n' m' c c',WS (kZ cs 6) l' n' m'∧v=.tup [.slice 3 .z 1 n' c',.int .i64 0] ∧
      H=[.ro .i16 cs,.one 184 [.slice 2 .z 1 n' c,.int .i64 m'],.buf 5 .u8 l' c,.buf 5 .u8 l' c'])) :
    Con Try.prog 79 [.slice 0 .z 1 told.length capT,.slice 1 .z 1 cs.length capC,.int .i64 6] [.ro .u8 told,.ro .i16 cs] (fun v H R=>R=[] ∧
      ((v=.val (.slice none 0 0)∧H=[.ro .u8 told,.ro .i16 cs]∧kdM A B C N told (pack (kZ cs 6))) ∨
       ∃(b:List Int) (c':Nat),b.length+1≤c'∧v=.slice 2 .z 1 (b.length+1) c'∧H=[.ro .u8 told,.ro .i16 cs,.buf 5 .u8 ((b.length:Int)::b) c']∧bst 256 b=some told∧b.length≤127∧∀x∈b,isByte x)):=by
  have hfirst:=fun(s:Int) (z:Bool)=>kgp N A B C s z N hN4
  have hahead:=fun(s next:Int) (h:0≤next∧next<4096)=>kk0 N A B C s next N hN4 hbnd h
  have hput:=@kni;have hclose:=@kk1;have hbys:=kcW;have hRT0:=RT.nil (A:=A) (B:=B) (C:=C) (N:=N) (told:=told);have hRTf:=@RT.first A B C N told
  have hRTs:=@RT.step A B C N told;have hNilA:∀(i:Nat) (q bs:List Int),i<told.length→RT A B C N told (i+1) q bs→q.getD (i % 2) 0<0→(∀k,k<N→A k=told.getD i 0→i+2=told.length∧¬0<B k)→kdM A B C N told (pack (kZ cs 6)):=fun i q bs h1 h2 h3 h4=>.inl ⟨i,q,bs,h1,h2,.inl ⟨h3,h4⟩⟩
  have hNilB:∀(i:Nat) (q bs:List Int),i<told.length→RT A B C N told (i+1) q bs→0≤q.getD (i % 2) 0→(∀k,k<N→¬kcj A B C (told.getD i 0) (q.getD (i % 2) 0) k)→kdM A B C N told (pack (kZ cs 6)):=fun i q bs h1 h2 h3 h4=>.inl ⟨i,q,bs,h1,h2,.inr ⟨h3,h4⟩⟩
  have hNilC:∀q bs:List Int,RT A B C N told 0 q bs→¬(bst 256 (ke5 (pack (kZ cs 6)) q bs)=some told∧(ke5 (pack (kZ cs 6)) q bs).length≤127)→kdM A B C N told (pack (kZ cs 6)):=fun q bs h1 h2=>.inr ⟨q,bs,h1,h2⟩
  have hHit:∀s next k,kcj A B C s next k→C k≤next∧next-C k<2^(B k).toNat:=fun s next k h=>h.2
  have hfin:∀(hd q bs:List Int),ke5 hd q bs=hd++pack (bs++kr (IntKind.u64.wrap (q.getD 1 0)) 6++kr (IntKind.u64.wrap (q.getD 0 0)) 6++[1]):=fun _ _ _=>rfl
  have hpkl:=kF;have hpkb:=kkK;have hbt:=fun i=>qH ht i
  generalize kdM A B C N told (pack (kZ cs 6))=BN at *;generalize kZ cs 6=WB at *;generalize RT A B C N told=RTT at *;generalize kcj A B C=HT at *;generalize hn:told.length=n at *;generalize hcn:cs.length=cn at *;refine kw (ju (kH (kl kD kph ?_)))
  intro vb vc vw vtoN vofN vaddN _ _ _ _ vgd vst vln vrep vsub vonto _ vstrEq _ vnotB _ hw qb qc qw qtoN qofN qaddN _ _ _ _ qgd qst qln qrep qsub qonto _ qstrEq _ qnotB _;have hm:=kD;generalize Try.prog=P at *;have hto:∀i:Nat,vtoN (i:Int)=i:=fun i=>by simp only[qtoN,Int.toNat_natCast]
  have hadd0:∀i,vaddN 0 i=i:=fun i=>by simp only[qaddN,Nat.zero_add]
  have hnt:vnotB true=false:=by rw[qnotB];rfl
  have hnf:vnotB false=true:=by rw[qnotB];rfl
  have hgd:∀l i,vgd l i=l.getD i 0:=fun l i=>by simp only[qgd]
  obtain⟨nI,hnI⟩:∃nI:Int,nI=n:=⟨_,rfl⟩;have en:vofN n=nI:=by rw[qofN,hnI]
  obtain⟨nm1,hnm1⟩:∃x:Int,x=nI-1:=⟨_,rfl⟩;have es:vb .sub .i64 nI 1=nm1:=by rw[qb,hnm1];exact ku (by omega) (by omega)
  obtain⟨nm2,hnm2⟩:∃x:Int,x=nI-2:=⟨_,rfl⟩;have es2:vb .sub .i64 nI 2=nm2:=by rw[qb,hnm2];exact ku (by omega) (by omega)
  have hnm1':nm1=(n:Int)-1:=by omega
  have hnm2':nm2=(n:Int)-2:=by omega
  clear hnm1 hnm2;cbv;refine ka (ρ:=[(1,.z)]) hT ⟨by rfl,by rfl,by rfl,by cbv;(repeat' first|(refine And.intro ?_ ?_)|exact trivial|exact⟨Nat.le_refl _⟩|exact kd _|exact fun _=>rfl|(simp only[renL3];done)|(show SB.roA _ _ _=SB.roA _ _ _;rfl)|exact funext fun _=>rfl)⟩ ?_
  rintro v H R js ⟨rfl,rfl,rfl⟩;cbv;(repeat refine And.intro (fun _=>rfl) ?_);refine ka (ρ:=[(1,.z)]) hW ⟨by rfl,by rfl,by rfl,by cbv;(repeat' first|(refine And.intro ?_ ?_)|exact trivial|exact⟨Nat.le_refl _⟩|exact kd _|exact fun _=>rfl|(simp only[renL3];done)|(show SB.roA _ _ _=SB.roA _ _ _;rfl)|exact funext fun _=>rfl)⟩ ?_
  rintro v H R js ⟨rfl,lh,nh,mh,ch,ch2,hws0,rfl,rfl⟩;cbv;(repeat refine And.intro (fun _=>rfl) ?_);have hz0:vc .neq 0 0=false:=by rw[qc];rfl
  rw[hz0];cbv;rw[hz0];cbv;(repeat refine And.intro (fun _=>rfl) ?_);have hst2:vst (vst (vrep 2 0) 0 (-1)) 1 (-1)=[-1,-1]:=by simp only[qst,qrep];rfl
  refine⟨⟨by simp only[qln,qrep];decide⟩,⟨by simp only[qln,qrep,qst];decide⟩,?_⟩
  rw[hst2,en,es];refine WX.cv (Cv.nilB 6 0 5 .u8 (by rfl) (by cbv;(repeat' first|(refine And.intro ?_ ?_)|exact trivial|exact⟨Nat.le_refl _⟩|exact kd _|exact fun _=>rfl|(simp only[renL3];done)|(show SB.roA _ _ _=SB.roA _ _ _;rfl)|exact funext fun _=>rfl)) (Cv.here ?_))
  refine kv (α:=Int×Nat×List Int×List Int×List Int×Nat×Int×Nat) ([15,16,17,18,19]++(List.range' 48 64)) [6,7,8] (fun(ii,i,q,bs,lb,nb,mb,cb)=>[(14,.int .i64 ii)])
    (fun(ii,i,q,bs,lb,nb,mb,cb)=>[(6,.one 71 [.slice 8 .z 1 nb cb,.int .i64 mb]),(7,.ints 195 .i64 q),(8,.buf 5 .u8 lb cb)])
    (fun(ii,i,q,bs,lb,nb,mb,cb)=>ii=(i:Int)-1∧i≤n∧q.length=2∧(∀j:Nat,-1≤q.getD j 0∧q.getD j 0<N)∧WS bs lb nb mb∧bs.length+12*i≤12*n∧RTT i q bs)
    (fun(ii,i,q,bs,lb,nb,mb,cb)=>i) hw hm ?_ ?_
  · refine Cv.genAt [14] [6] (Cv.fold ([15,16,17,18,19]++(List.range' 48 64)) 9 [6,7,8] (by exact Nat.le_refl _) (by exact Nat.le_of_ble_eq_true rfl) (by rfl) (by cbv) ?_)
    intro js;exact⟨(nm1,n,[-1,-1],[],[],0,0,0),⟨hnm1',Nat.le_refl _,rfl,fun j=>by
      rcases j with _|_|j
      · exact⟨by decide,by show(-1:Int)<N;omega⟩
      · exact⟨by decide,by show(-1:Int)<N;omega⟩
      · exact⟨by show(-1:Int)≤0;decide,by show(0:Int)<N;omega⟩,WS.nil,by simp,hRT0⟩,js,rfl⟩
  · rintro⟨ii,i,q,bs,lb,nb,mb,cb⟩ js ⟨hii,hin,hql,hqr,hws,hbl,hrt⟩
    by_cases hi0:i=0
    · subst hi0
      have hge:vc .geq ii 0=false:=by rw[qc,k7];omega
      have hg0:vgd q 0=q.getD 0 0:=hgd q 0;have hg1:vgd q 1=q.getD 1 0:=hgd q 1;have hlq:vln q=2:=by rw[qln];exact hql
      obtain⟨x0,hx0⟩:∃x,x=IntKind.u64.wrap (q.getD 0 0):=⟨_,rfl⟩;obtain⟨x1,hx1⟩:∃x,x=IntKind.u64.wrap (q.getD 1 0):=⟨_,rfl⟩;have hw0:vw .u64 (q.getD 0 0)=x0:=by rw[qw,hx0]
      have hw1:vw .u64 (q.getD 1 0)=x1:=by rw[qw,hx1]
      have hr0:=kfM (q.getD 0 0);have hr1:=kfM (q.getD 1 0);rw[←hx0] at hr0;rw[←hx1] at hr1;have hbl0:bs.length≤4000:=by omega
      have hp1:=hput bs lb cb nb x1 6 mb hr1 (by decide) hws (by omega);have hp0:=fun(bs1 lb cb nb mb) (h:WS bs1 lb nb mb) (h2:bs1.length≤5000)=>hput bs1 lb cb nb x0 6 mb hr0 (by decide) h (by omega)
      have hfi:ke5 (pack WB) q bs=pack WB++pack (bs++kr x1 6++kr x0 6++[1]):=by rw[hfin,←hx0,←hx1]
      have hnc:=hNilC q bs hrt;rw[hfi] at hnc;have e6:(6:Int).toNat=6:=rfl;rw[e6] at hp1 hp0;obtain⟨bs1,hbs1⟩:∃b,b=bs++kr x1 6:=⟨_,rfl⟩;have hbl1:bs1.length≤5000:=by rw[hbs1,List.length_append,kg];omega
      rw[←hbs1] at hp1 hnc;obtain⟨bs2,hbs2⟩:∃b,b=bs1++kr x0 6:=⟨_,rfl⟩;have hbl2:bs2.length≤5006:=by rw[hbs2,List.length_append,kg];omega
      rw[←hbs2] at hnc;have hp0:=fun(lb cb nb mb) (h:WS bs1 lb nb mb)=>hp0 bs1 lb cb nb mb h hbl1
      rw[←hbs2] at hp0;have hcl:=fun(l c n m) (h:WS bs2 l n m)=>hclose bs2 l c n m h (by omega)
      clear hfirst hahead hput hclose hRTf hRTs hNilA hNilB hNilC hHit hqr hbt;cbv;rw[hge];cbv;rw[hg1,hw1];refine⟨⟨by decide⟩,⟨by rw[hlq];decide⟩,?_⟩
      refine ka (ρ:=[(6,.z),(8,.z)]) hp1 ⟨by rfl,by rfl,by rfl,by cbv;(repeat' first|(refine And.intro ?_ ?_)|exact trivial|exact⟨Nat.le_refl _⟩|exact kd _|exact fun _=>rfl|(simp only[renL3];done)|(show SB.roA _ _ _=SB.roA _ _ _;rfl)|exact funext fun _=>rfl)⟩ ?_
      rintro v H R js3 ⟨rfl,lb2,nb2,mb2,cb2,hws2,rfl,rfl⟩;have hp0:=hp0 lb2 cb2 nb2 mb2 hws2;clear hp1;cbv;(repeat refine And.intro (fun _=>rfl) ?_);rw[hg0,hw0];refine⟨⟨by decide⟩,⟨by rw[hlq];decide⟩,?_⟩
      refine ka (ρ:=[(6,.z),(8,.z)]) hp0 ⟨by rfl,by rfl,by rfl,by cbv;(repeat' first|(refine And.intro ?_ ?_)|exact trivial|exact⟨Nat.le_refl _⟩|exact kd _|exact fun _=>rfl|(simp only[renL3];done)|(show SB.roA _ _ _=SB.roA _ _ _;rfl)|exact funext fun _=>rfl)⟩ ?_
      rintro v H R js4 ⟨rfl,lb3,nb3,mb3,cb3,hws3,rfl,rfl⟩;have hcl:=hcl lb3 cb3 nb3 mb3 hws3;clear hp0;cbv;(repeat refine And.intro (fun _=>rfl) ?_);refine ka (ρ:=[(6,.z),(8,.z)]) hcl ⟨by rfl,by rfl,by rfl,by cbv;(repeat' first|(refine And.intro ?_ ?_)|exact trivial|exact⟨Nat.le_refl _⟩|exact kd _|exact fun _=>rfl|(simp only[renL3];done)|(show SB.roA _ _ _=SB.roA _ _ _;rfl)|exact funext fun _=>rfl)⟩ ?_
      rintro v H R js5 ⟨rfl,lz,nz,cz,hlz,hnz,rfl,rfl⟩;clear hcl;obtain⟨w1,w2,w3,w4⟩:=hws;obtain⟨v1,v2,v3,v4⟩:=hws0;have hlnz:vln lz=nz:=by rw[qln];exact hnz.symm
      have hlnh:vln lh=nh:=by rw[qln];exact v3.symm
      obtain⟨BB,hBB⟩:∃B,B=lh++lz:=⟨_,rfl⟩;obtain⟨m,hm2⟩:∃m,m=nh+nz:=⟨_,rfl⟩;have hont:vonto lh nh (vsub lz 0 nz)=BB:=by
        have e1:lh.take nh=lh:=by rw[v3];exact List.take_length
        have e2:lz.take nz=lz:=by rw[hnz];exact List.take_length
        rw[qonto,qsub,hBB];simp only[List.drop_zero,e1,e2]
      have ha:vaddN nh nz=m:=by rw[hm2];simp only[qaddN]
      have hBl:BB.length=m:=by rw[hBB,List.length_append,←v3,←hnz,hm2]
      have hBB2:pack WB++pack (bs2++[1])=BB:=by rw[hBB,v2,hlz]
      rw[hBB2] at hnc;have hBb:∀x∈BB,isByte x:=fun x hx=>by
        rw[←hBB2] at hx;rcases List.mem_append.1 hx with hx|hx
        · exact hpkb WB hwb x hx
        · refine hpkb (bs2++[1]) (fun y hy=>?_) x hx
          rcases List.mem_append.1 hy with hy|hy
          · rw[hbs2] at hy
            rcases List.mem_append.1 hy with hy|hy
            · rw[hbs1] at hy
              rcases List.mem_append.1 hy with hy|hy
              · exact w1 y hy
              · exact kX _ _ y hy
            · exact kX _ _ y hy
          · rw[List.mem_singleton.1 hy];unfold kT;omega
      have hml:m≤100000:=by
        have h1:=hpkl WB;have h2:=hpkl (bs2++[1]);rw[List.length_append] at h2;simp only[List.length_cons,List.length_nil] at h2;rw[←v2] at h1;rw[←hlz] at h2;omega
      have hby:=fun c h=>hbys BB c hBb (by omega) h
      rw[hBl] at hby;clear hbys hpkl hpkb hfin hrt hbl hbl0 hbl1 hbl2 hws2 hws3 hfi hBB2 hBB hwb hwl w1 w2 w3 w4 v1 v2 v4;cbv;(repeat refine And.intro (fun _=>rfl) ?_);refine⟨⟨by rw[hadd0,hlnz];exact Nat.le_refl _⟩,⟨by rw[hlnh];exact Nat.le_refl _⟩,⟨Nat.le_refl _⟩,⟨by rw[ha];((try simp only[nc] at *);omega)⟩,?_⟩
      (repeat refine And.intro (fun _=>rfl) ?_);intro c2 jv hle;have hle':m≤c2:=by have:=hle.out;simp only at this;rw[ha] at this;exact this
      have hby:=hby c2 hle';cbv;rw[hont,ha];refine ka (ρ:=[(5,.z)]) hby ⟨by rfl,by rfl,by rfl,by cbv;(repeat' first|(refine And.intro ?_ ?_)|exact trivial|exact⟨Nat.le_refl _⟩|exact kd _|exact fun _=>rfl|(simp only[renL3];done)|(show SB.roA _ _ _=SB.roA _ _ _;rfl)|exact funext fun _=>rfl)⟩ ?_
      rintro v H R js6 ⟨rfl,⟨hb1,rfl,rfl⟩|⟨L,cL,hb1,rfl,rfl⟩⟩
      · have hbn:=hnc (fun h=>by rw[hb1] at h;cases h.1)
        clear hnc hby;cbv;(repeat refine And.intro (fun _=>rfl) ?_);rw[hnf];cbv;exact⟨[0,1],.val (.slice none 0 0),[.ro .u8 told,.ro .i16 cs],rfl,rfl,rfl,rfl,⟨rfl,rfl,trivial⟩,rfl,.inl ⟨rfl,rfl,hbn⟩⟩
      · have hbn:¬(L=told∧m≤127)→BN:=fun h=>hnc (fun h2=>h ⟨by rw[hb1] at h2;exact Option.some.inj h2.1,by rw[←hBl];exact h2.2⟩)
        obtain⟨Ln,hLn⟩:∃n,n=L.length:=⟨_,rfl⟩;have hLu:=(kgu hb1).1;have hsubL:vsub L 0 Ln=L:=by rw[qsub,hLn];simp
        have hsubT:vsub told 0 n=told:=by rw[qsub,←hn];simp
        have hlL:vln L=Ln:=by rw[qln,hLn]
        have hlT:vln told=n:=by rw[qln];exact hn
        obtain⟨mI,hmI⟩:∃x:Int,x=m:=⟨_,rfl⟩;have em:vofN m=mI:=by rw[qofN,hmI]
        rw[←hLn];clear hnc hby;cbv;(repeat refine And.intro (fun _=>rfl) ?_);rw[hnt];cbv;refine⟨⟨by rw[hadd0,hlL];exact Nat.le_refl _⟩,⟨by rw[hadd0,hlT];exact Nat.le_refl _⟩,?_⟩
        rw[hsubL,hsubT];by_cases hLT:L=told
        · have hse:vnotB (vstrEq L told)=false:=by rw[qstrEq,qnotB,hLT];simp
          rw[hse];cbv;rw[em];by_cases hm7:m≤127
          · have hg7:vc .gtr mI 127=false:=by rw[qc,kx];((try simp only[nc] at *);omega)
            have hw8:vw .u8 mI=mI:=by rw[qw,hmI];((try simp only[nc] at *));show(m:Int) % 256=m;omega
            have hl1:vln [mI]=1:=by rw[qln];rfl
            have hlB:vln BB=m:=by rw[qln];exact hBl
            have ha1:vaddN 1 m=m+1:=by rw[qaddN];exact Nat.add_comm 1 m
            have hont2:vonto [mI] 1 (vsub BB 0 m)=mI::BB:=by
              have e2:BB.take m=BB:=by rw[←hBl];exact List.take_length
              rw[qonto,qsub];simp only[List.drop_zero,e2];rfl
            have hb1':bst 256 BB=some told:=by rw[hb1,hLT]
            obtain⟨m1,hm1⟩:∃m1,m1=m+1:=⟨_,rfl⟩;rw[←hm1] at ha1;rw[hg7];cbv;rw[em,hw8];(repeat refine And.intro (fun _=>rfl) ?_);refine⟨⟨by rw[hadd0,hlB];exact Nat.le_refl _⟩,⟨by rw[hl1];exact Nat.le_refl _⟩,⟨by rw[hl1];exact Nat.le_refl _⟩,⟨by rw[ha1];((try simp only[nc] at *);omega)⟩,?_⟩
            (repeat refine And.intro (fun _=>rfl) ?_);intro c3 jv3 hle3;have hle3':m1≤c3:=by have:=hle3.out;simp only at this;rw[ha1] at this;exact this
            cbv;rw[hont2,ha1];subst hm1;subst hmI;subst hBl;exact⟨[0,1,10],.slice 2 .z 1 (BB.length+1) c3,[.ro .u8 told,.ro .i16 cs,.buf 5 .u8 ((BB.length:Int)::BB) c3],rfl,rfl,rfl,rfl,⟨rfl,rfl,rfl,trivial⟩,rfl,.inr ⟨BB,c3,hle3',rfl,rfl,hb1',hm7,hBb⟩⟩
          · have hg7:vc .gtr mI 127=true:=by rw[qc,kC];((try simp only[nc] at *);omega)
            have hbn:=hbn (fun h=>hm7 h.2);rw[hg7];cbv;exact⟨[0,1],.val (.slice none 0 0),[.ro .u8 told,.ro .i16 cs],rfl,rfl,rfl,rfl,⟨rfl,rfl,trivial⟩,rfl,.inl ⟨rfl,rfl,hbn⟩⟩
        · have hse:vnotB (vstrEq L told)=true:=by rw[qstrEq,qnotB];simp;exact fun h=>hLT (kh8 hLu ht h)
          have hbn:=hbn (fun h=>hLT h.1);rw[hse];cbv;exact⟨[0,1],.val (.slice none 0 0),[.ro .u8 told,.ro .i16 cs],rfl,rfl,rfl,rfl,⟨rfl,rfl,trivial⟩,rfl,.inl ⟨rfl,rfl,hbn⟩⟩
    · obtain⟨i,rfl⟩:∃i',i=i'+1:=⟨i-1,by omega⟩
      have hii':ii=i:=by omega
      have hin':i<n:=by omega
      have hge:vc .geq ii 0=true:=by rw[qc,jP];omega
      obtain⟨kN,hkN⟩:∃k:Nat,k=i % 2:=⟨_,rfl⟩;obtain⟨kI,hkI⟩:∃k:Int,k=kN:=⟨_,rfl⟩;have erem:vb .rem .i64 ii 2=kI:=by rw[qb,kcD (by omega),hkI,hkN,hii'];omega
      have htk:vtoN kI=kN:=by rw[hkI];exact hto kN
      have hk2:kN<2:=by omega
      have hkR:0≤kI∧kI<2:=by omega
      have hti:vtoN ii=i:=by rw[hii'];exact hto i
      have hinR:0≤ii∧ii<(n:Int):=by omega
      have hlq:vln q=2:=by rw[qln];exact hql
      have hlt2:vln told=n:=by rw[qln];exact hn
      obtain⟨nx,hnx⟩:∃x,x=q.getD kN 0:=⟨_,rfl⟩;have hgq:vgd q kN=nx:=by rw[hnx];exact hgd q kN
      obtain⟨tv,htv⟩:∃x,x=told.getD i 0:=⟨_,rfl⟩;have hgt:vgd told i=tv:=by rw[htv];exact hgd told i
      have hqr1:=hqr kN;rw[←hnx] at hqr1;obtain⟨ii1,hii1⟩:∃x:Int,x=ii-1:=⟨_,rfl⟩;have eii:vb .sub .i64 ii 1=ii1:=by rw[qb,hii1];exact ku (by omega) (by omega)
      have hii1':ii1=(i:Int)-1:=by omega
      have hbl':bs.length+12*i≤12*n:=by omega
      have hnxk:nx=q.getD (i % 2) 0:=by rw[hnx,hkN]
      by_cases hnx0:nx<0
      · have hl:vc .lss nx 0=true:=by rw[qc,ko];exact hnx0
        obtain⟨z,hz⟩:∃z,z=vc .eql ii nm2:=⟨_,rfl⟩;have hnq:nm2=(n:Int)-2:=hnm2';have hzn:z=true↔i+2=n:=by rw[hz,qc,kJ];omega
        have hnil:(∀k,k<N→A k=tv→z=true∧¬0<B k)→BN:=fun h=>hNilA i q bs hin' hrt (by rw[←hnxk];exact hnx0) (fun k hk ha=>by
          have:=h k hk (by rw[htv];exact ha);exact⟨hzn.1 this.1,this.2⟩)
        have hok:∀(k:Nat) (ki:Int),ki=k→k<N→A k=tv→(z=true→0<B k)→(vst q kN ki).length=2∧(∀j:Nat,-1≤(vst q kN ki).getD j 0∧(vst q kN ki).getD j 0<N)∧RTT i (vst q kN ki) bs:=fun k ki h1 h2 h3 h4=>by
          rw[qst];obtain⟨e1,e2⟩:=kh9 hql hqr kN h1 h2;refine⟨e1,e2,?_⟩
          rw[hkN,h1];exact hRTf hrt hin' (by rw[←hnxk];exact hnx0) h2 (by rw[←htv];exact h3) (fun e=>h4 (hzn.2 e))
        have hfz:=hfirst tv z;clear hfirst hahead hput hclose hbys hRTf hRTs hNilA hNilB hNilC hHit hqr;cbv;rw[hge];cbv;rw[erem,htk];refine⟨⟨hkR⟩,⟨by rw[hlq];exact hk2⟩,?_⟩
        rw[hgq,hl];cbv;rw[hti,hgt,es2,←hz];refine⟨⟨hinR⟩,⟨by rw[hadd0,hlt2];exact hin'⟩,⟨by rw[hlt2];exact hin'⟩,?_⟩
        refine ka (ρ:=[(2,.z)]) hfz ⟨by rfl,by rfl,by rfl,by cbv;(repeat' first|(refine And.intro ?_ ?_)|exact trivial|exact⟨Nat.le_refl _⟩|exact kd _|exact fun _=>rfl|(simp only[renL3];done)|(show SB.roA _ _ _=SB.roA _ _ _;rfl)|exact funext fun _=>rfl)⟩ ?_
        rintro v H R js2 ⟨rfl,rfl,⟨ki,k,rfl,hki,hkN',hA,hB⟩|⟨rfl,hno⟩⟩
        · obtain⟨f1,f2,f3⟩:=hok k ki hki hkN' hA hB
          clear hok hnil hfz;generalize hq2:vst q kN ki=q2 at f1 f2 f3;cbv;(repeat refine And.intro (fun _=>rfl) ?_);rw[hnt];cbv;rw[htk];(repeat refine And.intro (fun _=>rfl) ?_);rw[eii,hq2];refine⟨⟨hkR⟩,⟨by rw[hlq];exact hk2⟩,?_⟩
          refine Cv.fold ([15,16,17,18,19]++(List.range' 48 64)) 9 [6,7,8] (by exact Nat.le_refl _) (by exact Nat.le_of_ble_eq_true rfl) (by rfl) (by cbv) ?_
          intro js;refine⟨(ii1,i,q2,bs,lb,nb,mb,cb),?_,js,rfl⟩
          exact⟨⟨hii1',Nat.le_of_lt hin',f1,f2,hws,hbl',f3⟩,Nat.lt_succ_self i⟩
        · have hbn:=hnil hno
          clear hok hnil hfz;cbv;(repeat refine And.intro (fun _=>rfl) ?_);rw[hnf];cbv;exact⟨[0,1],.val (.slice none 0 0),[.ro .u8 told,.ro .i16 cs],rfl,rfl,rfl,rfl,⟨rfl,rfl,trivial⟩,rfl,.inl ⟨rfl,rfl,hbn⟩⟩
      · have hl:vc .lss nx 0=false:=by rw[qc,kb];exact hnx0
        have hnx1:0≤nx∧nx<4096:=by omega
        have hnil:(∀k,k<N→¬HT tv nx k)→BN:=fun h=>hNilB i q bs hin' hrt (by rw[←hnxk];exact hnx1.1) (fun k hk=>by
          rw[←hnxk,←htv];exact h k hk)
        have hok:∀(k:Nat) (ki:Int),ki=k→k<N→HT tv nx k→(vst q kN ki).length=2∧(∀j:Nat,-1≤(vst q kN ki).getD j 0∧(vst q kN ki).getD j 0<N)∧RTT i (vst q kN ki) (bs++kr (nx-C k) (B k).toNat):=fun k ki h1 h2 h3=>by
          rw[qst];obtain⟨e1,e2⟩:=kh9 hql hqr kN h1 h2;refine⟨e1,e2,?_⟩
          rw[hkN,h1,hnxk];exact hRTs hrt hin' (by rw[←hnxk];exact hnx1.1) h2 (by rw[←hnxk,←htv];exact h3)
        have hk4:∀(k:Nat),k<N→HT tv nx k→vw .i64 (C k)=C k∧vb .sub .i64 nx (C k)=nx-C k∧vw .u64 (nx-C k)=nx-C k∧vw .i64 (B k)=B k∧(0≤nx-C k∧nx-C k<2^64)∧(0≤B k∧B k≤56)∧(bs++kr (nx-C k) (B k).toNat).length+12*i≤12*n:=fun k h1 h2=>by
          have b1:=hbnd k h1;have b2:=hHit _ _ _ h2;refine⟨by rw[qw];exact wrap_i64 (by omega) (by omega),by rw[qb];exact ku (by omega) (by omega),by rw[qw];exact wrap_u64 (by omega) (by omega),by rw[qw];exact wrap_i64 (by omega) (by omega),⟨by omega,?_⟩,⟨by omega,by omega⟩,?_⟩
          · show nx-C k<18446744073709551616;omega
          · rw[List.length_append,kg];omega
        have haz:=hahead tv nx hnx1;have hbsl:bs.length≤2^40:=by omega
        clear hfirst hahead hclose hbys hRTf hRTs hNilA hNilB hNilC hHit hqr;cbv;rw[hge];cbv;rw[erem,htk];refine⟨⟨hkR⟩,⟨by rw[hlq];exact hk2⟩,?_⟩
        rw[hgq,hl];cbv;rw[hti,hgt];refine⟨⟨hinR⟩,⟨by rw[hadd0,hlt2];exact hin'⟩,⟨by rw[hlt2];exact hin'⟩,?_⟩
        rw[htk,hgq];refine⟨⟨hkR⟩,⟨by rw[hlq];exact hk2⟩,?_⟩
        refine ka (ρ:=[(2,.z)]) haz ⟨by rfl,by rfl,by rfl,by cbv;(repeat' first|(refine And.intro ?_ ?_)|exact trivial|exact⟨Nat.le_refl _⟩|exact kd _|exact fun _=>rfl|(simp only[renL3];done)|(show SB.roA _ _ _=SB.roA _ _ _;rfl)|exact funext fun _=>rfl)⟩ ?_
        rintro v H R js2 ⟨rfl,rfl,⟨ki,k,rfl,hki,hkN',hA⟩|⟨rfl,hno⟩⟩
        · obtain⟨f1,f2,f3⟩:=hok k ki hki hkN' hA
          obtain⟨g1,g2,g3,g4,g5,g6,g7⟩:=hk4 k hkN' hA;obtain⟨x,hx⟩:∃x,x=nx-C k:=⟨_,rfl⟩;rw[←hx] at g2 g3 g5 g7 f3;have hpx:=hput bs lb cb nb x (B k) mb g5 g6 hws hbsl;have hki':ki=(k:Int):=hki;have htki:vtoN ki=k:=by rw[hki'];exact hto k
          have hkiR:0≤ki∧ki<(N:Int):=by omega
          generalize (bs++kr x (B k).toNat)=bs2 at *;clear hok hnil haz hk4;generalize hq2:vst q kN ki=q2 at f1 f2 f3;cbv;(repeat refine And.intro (fun _=>rfl) ?_);rw[hnt];cbv;rw[htk,htki];rw[g1,hgq,g2,g3,g4];refine⟨⟨hkR⟩,⟨by rw[hlq];exact hk2⟩,⟨hkiR⟩,⟨hkN'⟩,⟨hkiR⟩,⟨hkN'⟩,?_⟩
          refine ka (ρ:=[(6,.z),(8,.z)]) hpx ⟨by rfl,by rfl,by rfl,by cbv;(repeat' first|(refine And.intro ?_ ?_)|exact trivial|exact⟨Nat.le_refl _⟩|exact kd _|exact fun _=>rfl|(simp only[renL3];done)|(show SB.roA _ _ _=SB.roA _ _ _;rfl)|exact funext fun _=>rfl)⟩ ?_
          rintro v H R js3 ⟨rfl,lb2,nb2,mb2,cb2,hws2,rfl,rfl⟩;cbv;rw[htk,hgq,eii,hq2];(repeat refine And.intro (fun _=>rfl) ?_);refine⟨⟨⟨hkN'⟩,trivial⟩,⟨⟨hkN'⟩,trivial⟩,⟨⟨by rw[hlq];exact hk2⟩,rfl⟩,⟨hkR⟩,⟨by rw[hlq];exact hk2⟩,?_⟩
          refine Cv.fold ([15,16,17,18,19]++(List.range' 48 64)) 9 [6,7,8] (by exact Nat.le_refl _) (by exact Nat.le_of_ble_eq_true rfl) (by rfl) (by cbv) ?_
          intro js;refine⟨(ii1,i,q2,bs2,lb2,nb2,mb2,cb2),?_,js,rfl⟩
          exact⟨⟨hii1',Nat.le_of_lt hin',f1,f2,hws2,g7,f3⟩,Nat.lt_succ_self i⟩
        · have hbn:=hnil hno
          clear hok hnil haz hk4 hput;cbv;(repeat refine And.intro (fun _=>rfl) ?_);rw[hnf];cbv;exact⟨[0,1],.val (.slice none 0 0),[.ro .u8 told,.ro .i16 cs],rfl,rfl,rfl,rfl,⟨rfl,rfl,trivial⟩,rfl,.inl ⟨rfl,rfl,hbn⟩⟩
set_option maxRecDepth 10000
theorem kia {l:List Int} {log ml ms:Int} (h:jc l log) (h1:log≤ml) (h2:ml≤12) (h3:(l.length:Int)≤ms+1) (h4:ms≤255) (behind:List Int) :
  kb1 (pack (kZ l log)++behind) ml ms=(l,log,((pack (kZ l log)).length:Int),0):=by
 have hbit:=kfG l log;have hpl:=kF (kZ l log);have hb:∀i,i<(kZ l log).length→(ja (pack (kZ l log)++behind)).getD i 0=(kZ l log).getD i 0:=fun i hi=>ke4 hbit i hi
 have hlen:(kZ l log).length≤8*(pack (kZ l log)++behind).length:=by rw[List.length_append];omega
 obtain⟨g1,g2,g3,g4,g5,g6,g7⟩:=h;have hW:kZ l log=[]++kr (log-5) 4++wgo none l (2^log.toNat):=rfl;have hr:=kbt (j:=0) (k:=4) hb hlen hW (by omega);have e:((log-5) / 2^0 % 2^4:Int)=log-5:=by simp only[Int.pow_zero,Int.ediv_one];omega
 rw[e] at hr;have hr:rdN (pack (kZ l log)++behind) 0 4=some (log-5):=hr;have hback:=kmo (ms:=ms) (pw:=2^log.toNat) hb hlen g6 g5 h3 g7 l.length 0 600 (kr (log-5) 4) (2^log.toNat) (by omega) (by simp[kW]) (by rw[List.drop_zero];rfl) (by omega);rw[List.take_zero,kg] at hback;unfold kb1;rw[if_neg (by omega),hr];simp only
 rw[if_neg (by omega),Int.sub_add_cancel,hback];simp only[ne_eq,not_true_eq_false,if_false];rw[hpl];congr 3
theorem ki9 {pre rest:List Int} {x:Int} {n:Nat} {p:Int} (hx:0≤x∧x<2^n) (h:∀b∈pre++kr x n++rest,kT b) (hp:p=((pre++kr x n).length:Nat)):rd (pack (pre++kr x n++rest)) p n=x:=by
 rw[hp,kn9 _ _ _ _ hx.1 h];exact Int.emod_eq_of_lt hx.1 hx.2
theorem set2 {q:List Int} (hq:q.length=2) (i:Nat) (x:Int):(q.set (i % 2) x).getD (i % 2) 0=x∧(q.set (i % 2) x).getD ((i+1) % 2) 0=q.getD ((i+1) % 2) 0:=by
 constructor
 ·rw[List.getD_eq_getElem?_getD,List.getElem?_set,if_pos rfl,if_pos (by omega)];rfl
 ·rw[List.getD_eq_getElem?_getD,List.getElem?_set,if_neg (by omega),←List.getD_eq_getElem?_getD]
theorem ke6 (i:Nat):(i+1+1) % 2=i % 2:=by omega
structure RTI (A B:Nat→Int) (N:Nat) (told:List Int) (i:Nat) (q bs:List Int):Prop where
 ql:q.length=2
 bit:∀b∈bs,kT b
 le:i≤told.length
 now:i<told.length→0≤q.getD (i % 2) 0∧q.getD (i % 2) 0<N∧A (q.getD (i % 2) 0).toNat=told.getD i 0
 oth:i+1<told.length→0≤q.getD ((i+1) % 2) 0∧q.getD ((i+1) % 2) 0<N∧A (q.getD ((i+1) % 2) 0).toNat=told.getD (i+1) 0
 non:told.length≤i→q.getD (i % 2) 0 = -1
 nob:told.length≤i+1→q.getD ((i+1) % 2) 0 = -1
 emp:told.length≤i+2→bs=[]
 pos:i+2=told.length→0<B (q.getD (i % 2) 0).toNat
theorem RT.inv {A B C:Nat→Int} {N:Nat} {told:List Int} {i:Nat} {q bs:List Int} (h:RT A B C N told i q bs):RTI A B N told i q bs:=by
 induction h with
 | nil=>
  have hm:∀j,([-1,-1]:List Int).getD (j % 2) 0 = -1:=fun j=>by
   rcases(show j % 2=0∨j % 2=1 by omega) with h|h<;>rw[h]<;>rfl
  exact⟨rfl,by simp,Nat.le_refl _,fun h=>by omega,fun h=>by omega,fun _=>hm _,fun _=>hm _,fun _=>rfl,fun h=>by omega⟩
 | @first i q bs k h hi hq hk ha hb ih=>
  obtain⟨s1,s2⟩:=set2 ih.ql i (k:Int);have hend:told.length≤i+2:=by
   apply Classical.byContradiction
   intro hc;have:=(ih.oth (by omega)).1;rw[ke6] at this;omega
  refine⟨by rw[List.length_set];exact ih.ql,ih.bit,by omega,fun _=>?_,fun h2=>?_,fun h2=>by omega,fun h2=>?_,fun _=>ih.emp (by omega),fun h2=>?_⟩
  ·rw[s1,Int.toNat_natCast];exact⟨by omega,by omega,ha⟩
  ·rw[s2];exact ih.now h2
  ·rw[s2];exact ih.non h2
  ·rw[s1,Int.toNat_natCast];exact hb h2
 | @step i q bs k h hi hq hk ha ih=>
  obtain⟨s1,s2⟩:=set2 ih.ql i (k:Int);have hend:i+2<told.length:=by
   apply Classical.byContradiction
   intro hc;have:=ih.nob (by omega);rw[ke6] at this;omega
  refine⟨by rw[List.length_set];exact ih.ql,fun b hb=>?_,by omega,fun _=>?_,fun h2=>?_,fun h2=>by omega,fun h2=>by omega,fun h2=>by omega,fun h2=>by omega⟩
  ·rcases List.mem_append.1 hb with hb|hb
   ·exact ih.bit b hb
   ·exact kX _ _ b hb
  ·rw[s1,Int.toNat_natCast];exact⟨by omega,by omega,ha.1⟩
  ·rw[s2];exact ih.now h2
theorem drop2 {l:List Int} {i:Nat} (h:i<l.length):l.drop i=l.getD i 0::l.drop (i+1):=by
 rw[List.getD_eq_getElem?_getD,List.getElem?_eq_getElem h];exact List.drop_eq_getElem_cons h
theorem knu {A B C:Nat→Int} {N:Nat} {told:List Int} (hB0:∀k,k<N→0≤B k) {i:Nat} {q bs:List Int} (h:RT A B C N told i q bs):i+2≤told.length→∀(W rest:List Int) (F:Nat) (l:List Int),W=bs++rest→(∀b∈W,kT b)→told.length≤i+F+1 →
  byS A B C (pack W) F (q.getD (i % 2) 0) (q.getD ((i+1) % 2) 0) bs.length l=some (l++told.drop i):=by
 induction h with
 |nil=>intro h;omega
 | @first i q bs k h hi hq hk ha hb ih=>
  intro h2 W rest F l hW hWb hF;have hI:=(RT.first h hi hq hk ha hb).inv;have hI1:=h.inv;have hend:told.length=i+2:=by
   have:told.length≤i+2:=by
    apply Classical.byContradiction
    intro hc;have:=(hI1.oth (by omega)).1;rw[ke6] at this;omega
   omega
  have hbs:bs=[]:=hI.emp (by omega);obtain⟨f,rfl⟩:∃f,F=f+1:=⟨F-1,by omega⟩;have hp:=hI.pos hend.symm;have hn:=hI.now (by omega);have ho:=hI.oth (by omega);rw[byS,if_pos (by rw[hbs];simp only[List.length_nil];omega),hn.2.2,ho.2.2,drop2 hi,drop2 (i:=i+1) (by omega),List.drop_eq_nil_of_le (by omega)];simp
 | @step i q bs k h hi hq hk ha ih=>
  intro h2 W rest F l hW hWb hF;have hI1:=h.inv;obtain⟨s1,s2⟩:=set2 hI1.ql i (k:Int);have hend:i+2<told.length:=by
   apply Classical.byContradiction
   intro hc;have:=hI1.nob (by omega);rw[ke6] at this;omega
  obtain⟨f,rfl⟩:∃f,F=f+1:=⟨F-1,by omega⟩;obtain⟨a1,a2,a3⟩:=ha;have hb0:=hB0 k hk;rw[s1,s2,byS,Int.toNat_natCast];have hlen:((bs++kr (q.getD (i % 2) 0-C k) (B k).toNat).length:Int)-B k=bs.length:=by
   rw[List.length_append,kg];omega
  rw[if_neg (by omega),hlen,hW,ki9 ⟨by omega,a3⟩ (by rw[←hW];exact hWb) rfl,←hW];rw[show C k+(q.getD (i % 2) 0-C k)=q.getD (i % 2) 0 by omega];have:=ih (by omega) W (kr (q.getD (i % 2) 0-C k) (B k).toNat++rest) f (l++[A k]) (by rw[hW,List.append_assoc]) hWb (by omega);rw[ke6] at this;rw[this,drop2 hi,a1];simp
theorem kmF {cs told q bs:List Int} (hR:jc cs 6) (h12:cs.length≤12) (h2:2≤told.length) (h256:told.length≤256) (h:RT (jf cs 64) (qn cs 6 64 64) (qa cs 6 64 64) 64 told 0 q bs):bst 256 (ke5 (pack (kZ cs 6)) q bs)=some told:=by
 have hs64:(2:Int)^(6:Int).toNat=64:=by decide
 have hI:=h.inv;have hn:0≤q.getD 0 0∧q.getD 0 0<(64:Nat)∧_:=hI.now (by omega);have ho:0≤q.getD 1 0∧q.getD 1 0<(64:Nat)∧_:=hI.oth (by omega);obtain⟨a,ha⟩:∃a,q.getD 0 0=a:=⟨_,rfl⟩;obtain⟨o,ho'⟩:∃a,q.getD 1 0=a:=⟨_,rfl⟩;have hB0:∀k,k<64→0≤qn cs 6 64 64 k:=fun k hk=>by
  obtain⟨b,_,b2,_⟩:=kgl hR hs64 (N:=64) rfl hk;omega
 have hfin:ke5 (pack (kZ cs 6)) q bs=pack (kZ cs 6)++pack (bs++kr o 6++kr a 6++[1]):=by
  unfold ke5;rw[ha,ho',wrap_u64 (by omega) (by omega),wrap_u64 (by omega) (by omega)]
 rw[ha] at hn;rw[ho'] at ho;obtain⟨W,hW⟩:∃W,W=bs++kr o 6++kr a 6:=⟨_,rfl⟩;have hWb:∀b∈W++[1],kT b:=fun b hb=>by
  rcases List.mem_append.1 hb with hb|hb
  ·rw[hW] at hb;rcases List.mem_append.1 hb with hb|hb
   ·rcases List.mem_append.1 hb with hb|hb
    ·exact hI.bit b hb
    ·exact kX _ _ b hb
   ·exact kX _ _ b hb
  ·rw[List.mem_singleton.1 hb];unfold kT;omega
 obtain⟨m1,m2⟩:=kna W (fun b hb=>hWb b (List.mem_append_left _ hb));have hWl:W.length=bs.length+12:=by rw[hW];simp[kg]
 have hm:qT (pack (W++[1]))=(W.length:Int):=m2;rw[hfin,←hW];unfold bst;rw[kia hR (by decide) (by decide) (by omega) (by decide)];simp only
 rw[if_neg (by decide),if_neg (by simp[hR]),Int.toNat_natCast,List.drop_left,if_neg m1,hm,if_neg (by omega),hs64];have r1:rd (pack (W++[1])) (W.length:Int) (6:Int).toNat=a:=by
  have:=ki9 (pre:=bs++kr o 6) (rest:=[1]) (x:=a) (n:=6) (p:=(W.length:Int)) ⟨hn.1,by have:=hn.2.1;show a<64;omega⟩ (by rw[←hW];exact hWb) (by rw[hW]);rw[←hW] at this;exact this
 have r2:rd (pack (W++[1])) ((W.length:Int)-6) (6:Int).toNat=o:=by
  have:=ki9 (pre:=bs) (rest:=kr a 6++[1]) (x:=o) (n:=6) (p:=(W.length:Int)-6) ⟨ho.1,by have:=ho.2.1;show o<64;omega⟩ (by rw[←List.append_assoc,←hW];exact hWb) (by rw[List.length_append,kg];omega);rw[←List.append_assoc,←hW] at this;exact this
 rw[r1,r2];have hrr:=knu hB0 h (by omega) (W++[1]) (kr o 6++kr a 6++[1]) 256 [] (by rw[hW];simp) hWb (by omega);have hpos:(W.length:Int)-6-6=bs.length:=by omega
 rw[hpos];have e0:q.getD (0 % 2) 0=a:=ha;have e1:q.getD ((0+1) % 2) 0=o:=ho';rw[e0,e1] at hrr;exact hrr
end Go.Proofs.Ytlclleihoampdaa
namespace Go.Proofs.Ytlclleihoampdaa
structure PermOn (p p':Nat→Nat) (a b:Nat):Prop where
 out:∀m,m<a∨b≤m→p' m=p m
 sub:∀m,a≤m→m<b→∃m',a≤m'∧m'<b∧p' m=p m'
 inj:(∀i j,p i=p j→i=j)→∀i j,p' i=p' j→i=j
def St (k:Nat→Int) (p:Nat→Nat):Prop:=∀i j,i<j→k (p i)=k (p j)→p i<p j
def Srt (k:Nat→Int) (p:Nat→Nat) (a b:Nat):Prop:=∀i j,a≤i→i<j→j<b→k (p i)≤k (p j)
theorem PermOn.refl (p:Nat→Nat) (a b:Nat):PermOn p p a b:=⟨fun _ _=>rfl,fun m h1 h2=>⟨m,h1,h2,rfl⟩,fun h=>h⟩
theorem PermOn.trans {p q r:Nat→Nat} {a b:Nat} (h:PermOn p q a b) (g:PermOn q r a b):PermOn p r a b:=by
 refine⟨fun m hm=>(g.out m hm).trans (h.out m hm),fun m h1 h2=>?_,fun hi=>g.inj (h.inj hi)⟩
 obtain⟨m',h3,h4,e⟩:=g.sub m h1 h2;obtain⟨m'',h5,h6,e'⟩:=h.sub m' h3 h4;exact⟨m'',h5,h6,e.trans e'⟩
theorem PermOn.wide {p q:Nat→Nat} {a b a' b':Nat} (h:PermOn p q a b) (ha:a'≤a) (hb:b≤b'):PermOn p q a' b':=by
 refine⟨fun m hm=>h.out m (by omega),fun m h1 h2=>?_,h.inj⟩
 by_cases hm:a≤m∧m<b
 ·obtain⟨m',h3,h4,e⟩:=h.sub m hm.1 hm.2;exact⟨m',by omega,by omega,e⟩
 ·exact⟨m,h1,h2,h.out m (by omega)⟩
theorem PermOn.st {k:Nat→Int} {p q:Nat→Nat} {a b:Nat} (h:PermOn p q a b) (hs:St k p) (hin:∀i j,a≤i→i<j→j<b→k (q i)=k (q j)→q i<q j):St k q:=by
 intro i j hij hk;by_cases hi:a≤i∧i<b
 ·by_cases hj:a≤j∧j<b
  ·exact hin i j hi.1 hij hj.2 hk
  ·obtain⟨i',h1,h2,e⟩:=h.sub i hi.1 hi.2;have ej:=h.out j (by omega);rw[e,ej] at hk ⊢
   exact hs i' j (by omega) hk
 ·have ei:=h.out i (by omega);by_cases hj:a≤j∧j<b
  ·obtain⟨j',h1,h2,e⟩:=h.sub j hj.1 hj.2;rw[e,ei] at hk ⊢
   exact hs i j' (by omega) hk
  ·have ej:=h.out j (by omega);rw[ei,ej] at hk ⊢
   exact hs i j hij hk
@[irreducible] def swp (p:Nat→Nat) (i j:Nat):Nat→Nat:=fun m=>if m=i then p j else if m=j then p i else p m
theorem ke0 (p:Nat→Nat) (i j m:Nat):swp p i j m=if m=i then p j else if m=j then p i else p m:=by unfold swp;rfl
theorem kfN (p:Nat→Nat) (i j:Nat):swp p i j i=p j:=by rw[ke0,if_pos rfl]
theorem kfO (p:Nat→Nat) (i j:Nat):swp p i j j=p i:=by rw[ke0];split<;>simp_all
theorem kak (p:Nat→Nat) (i j m:Nat) (h1:m≠i) (h2:m≠j):swp p i j m=p m:=by rw[ke0,if_neg h1,if_neg h2]
def Ins (k:Nat→Int) (q:Nat→Nat) (a j i:Nat):Prop:=∀x y,a≤x→x<y→y≤i→y≠j→k (q x)≤k (q y)
theorem Ins.start {k:Nat→Int} {q:Nat→Nat} {a i:Nat} (h:Srt k q a i):Ins k q a i i:=fun x y h1 h2 h3 h4=>h x y h1 h2 (by omega)
theorem Ins.next {k:Nat→Int} {q:Nat→Nat} {a j i:Nat} (h:Ins k q a (j+1) i) (hj:a≤j) (hji:j+1≤i) (hk:k (q (j+1))<k (q j)):Ins k (swp q j (j+1)) a j i:=by
 intro x y h1 h2 h3 h4;rw[ke0,ke0];have e1:=h x y h1 h2 h3;have e2:=h j y hj;have e3:=h (j+1) y (by omega);have e4:=h x j h1;repeat' split
 all_goals first|omega|skip
 all_goals simp_all
 all_goals first|omega|(rcases Nat.lt_trichotomy y (j+1) with h|h|h<;>first|omega|(simp_all;omega))
theorem Ins.done {k:Nat→Int} {q:Nat→Nat} {a j i:Nat} (h:Ins k q a j i) (hj:j=a∨(a<j∧k (q (j-1))≤k (q j))):Srt k q a (i+1):=by
 intro x y h1 h2 h3;by_cases hy:y=j
 ·subst hy;rcases hj with hj|⟨hj,hk⟩
  ·omega
  ·by_cases hx:x=y-1
   ·subst hx;exact hk
   ·exact Int.le_trans (h x (y-1) h1 (by omega) (by omega) (by omega)) hk
 ·exact h x y h1 h2 (by omega) hy

structure Up (k:Nat→Int) (q:Nat→Nat) (a c i b:Nat):Prop where
 oth:∀x y,a≤x→x<y→y<b→x≠c→y≠c→k (q x)≤k (q y)
 lo:∀x,a≤x→x<c→k (q x)≤k (q c)
 mid:∀y,c<y→y<i→k (q y)<k (q c)
 hi:∀y,i≤y→y<b→c<y→k (q c)≤k (q y)
theorem Up.next {k:Nat→Int} {q:Nat→Nat} {a c i b:Nat} (h:Up k q a c i b) (ha:a≤c) (hc:c+1<i) (hi:i≤b):Up k (swp q c (c+1)) a (c+1) i b:=by
 have hm:=h.mid (c+1) (by omega) hc;refine⟨fun x y h1 h2 h3 h4 h5=>?_,fun x h1 h2=>?_,fun y h1 h2=>?_,fun y h1 h2 h3=>?_⟩
 ·by_cases hx:x=c
  ·subst hx;rw[kfN,kak _ _ _ y (by omega) (by omega)];exact h.oth (x+1) y (by omega) (by omega) h3 (by omega) (by omega)
  ·by_cases hy:y=c
   ·subst hy;rw[kfN,kak _ _ _ x (by omega) (by omega)];exact h.oth x (y+1) h1 (by omega) (by omega) (by omega) (by omega)
   ·rw[kak _ _ _ x hx h4,kak _ _ _ y hy h5];exact h.oth x y h1 h2 h3 hx hy
 ·rw[kfO];by_cases hx:x=c
  ·subst hx;rw[kfN];exact Int.le_of_lt hm
  ·rw[kak _ _ _ x hx (by omega)];exact h.lo x h1 (by omega)
 ·rw[kfO,kak _ _ _ y (by omega) (by omega)];exact h.mid y (by omega) h2
 ·rw[kfO,kak _ _ _ y (by omega) (by omega)];exact h.hi y h1 h2 (by omega)
theorem Up.done {k:Nat→Int} {q:Nat→Nat} {a c i b:Nat} (h:Up k q a c i b) (hc:i≤c+1):Srt k q a b:=by
 intro x y h1 h2 h3;by_cases hx:x=c
 ·subst hx;exact h.hi y (by omega) h3 h2
 ·by_cases hy:y=c
  ·subst hy;exact h.lo x h1 h2
  ·exact h.oth x y h1 h2 h3 hx hy
structure Dn (k:Nat→Int) (q:Nat→Nat) (a i c b:Nat):Prop where
 oth:∀x y,a≤x→x<y→y<b→x≠c→y≠c→k (q x)≤k (q y)
 hi:∀y,c<y→y<b→k (q c)≤k (q y)
 mid:∀x,i≤x→x<c→k (q c)<k (q x)
 lo:∀x,a≤x→x<i→x<c→k (q x)≤k (q c)
theorem Dn.next {k:Nat→Int} {q:Nat→Nat} {a i c b:Nat} (h:Dn k q a i (c+1) b) (hi:i≤c) (ha:a≤i) (hc:c+1<b):Dn k (swp q c (c+1)) a i c b:=by
 have hm:=h.mid c hi (by omega);refine⟨fun x y h1 h2 h3 h4 h5=>?_,fun y h1 h2=>?_,fun x h1 h2=>?_,fun x h1 h2 h3=>?_⟩
 ·by_cases hx:x=c+1
  ·subst hx;rw[kfO,kak _ _ _ y (by omega) (by omega)];exact h.oth c y (by omega) (by omega) h3 (by omega) (by omega)
  ·by_cases hy:y=c+1
   ·subst hy;rw[kfO,kak _ _ _ x (by omega) (by omega)];exact h.oth x c h1 (by omega) (by omega) (by omega) (by omega)
   ·rw[kak _ _ _ x h4 hx,kak _ _ _ y h5 hy];exact h.oth x y h1 h2 h3 hx hy
 ·rw[kfN];by_cases hy:y=c+1
  ·subst hy;rw[kfO];exact Int.le_of_lt hm
  ·rw[kak _ _ _ y (by omega) hy];exact h.hi y (by omega) h2
 ·rw[kfN,kak _ _ _ x (by omega) (by omega)];exact h.mid x h1 (by omega)
 ·rw[kfN,kak _ _ _ x (by omega) (by omega)];exact h.lo x h1 h2 (by omega)
theorem Dn.done {k:Nat→Int} {q:Nat→Nat} {a i c b:Nat} (h:Dn k q a i c b) (hc:c≤i):Srt k q a b:=by
 intro x y h1 h2 h3;by_cases hx:x=c
 ·subst hx;exact h.hi y h2 h3
 ·by_cases hy:y=c
  ·subst hy;exact h.lo x h1 (by omega) h2
  ·exact h.oth x y h1 h2 h3 hx hy

@[irreducible] def kdT (p:Nat→Nat) (a m b:Nat):Nat→Nat:=fun x=>if a≤x∧x<a+(b-m) then p (m+(x-a)) else if a+(b-m)≤x∧x<b then p (a+(x-(a+(b-m)))) else p x
theorem jL (p:Nat→Nat) (a m b x:Nat):kdT p a m b x=if a≤x∧x<a+(b-m) then p (m+(x-a)) else if a+(b-m)≤x∧x<b then p (a+(x-(a+(b-m)))) else p x:=by unfold kdT;rfl
theorem kk6 {p:Nat→Nat} {a m b:Nat} (h1:a≤m) (h2:m≤b):PermOn p (kdT p a m b) a b:=by
 refine⟨fun x hx=>by rw[jL,if_neg (by omega),if_neg (by omega)],fun x h3 h4=>?_,fun hinj x y hxy=>?_⟩
 ·rw[jL];split
  ·exact⟨_,by omega,by omega,rfl⟩
  ·rw[if_pos (by omega)];exact⟨_,by omega,by omega,rfl⟩
 ·rw[jL,jL] at hxy;repeat' split at hxy
  all_goals have:=hinj _ _ hxy
  all_goals omega

structure CutAt (k:Nat→Int) (q:Nat→Nat) (a s m e b:Nat):Prop where
 le1:a≤s
 le2:s≤m
 le3:m≤e
 le4:e≤b
 ll:∀x y,a≤x→x<s→e≤y→y<b→k (q x)≤k (q y)
 rl:∀x y,s≤x→x<m→m≤y→y<e→k (q y)<k (q x)
theorem CutAt.rot {k:Nat→Int} {q:Nat→Nat} {a s m e b:Nat} (h:CutAt k q a s m e b) (hl:Srt k q a m) (hr:Srt k q m b) (hst:St k q) :
  PermOn q (kdT q s m e) a b∧St k (kdT q s m e)∧Srt k (kdT q s m e) a s∧Srt k (kdT q s m e) s (s+(e-m))∧Srt k (kdT q s m e) (s+(e-m)) e∧Srt k (kdT q s m e) e b ∧
  (∀x y,a≤x→x<s+(e-m)→s+(e-m)≤y→y<b→k (kdT q s m e x)≤k (kdT q s m e y)):=by
 have h1:=h.le1;have h2:=h.le2;have h3:=h.le3;have h4:=h.le4;have hp:PermOn q (kdT q s m e) s e:=kk6 h2 h3;refine⟨hp.wide h1 h4,hp.st hst (fun i j hi hij hj hk=>?_),fun i j hi hij hj=>?_,fun i j hi hij hj=>?_,fun i j hi hij hj=>?_,fun i j hi hij hj=>?_,fun x y hx1 hx2 hy1 hy2=>?_⟩
 ·rw[jL,jL] at hk ⊢
  repeat' split at hk
  all_goals first|omega|skip
  ·rw[if_pos (by omega),if_pos (by omega)];exact hst _ _ (by omega) hk
  ·have:=h.rl (s+(j-(s+(e-m)))) (m+(i-s)) (by omega) (by omega) (by omega) (by omega);omega
  ·rw[if_neg (by omega),if_pos (by omega),if_neg (by omega),if_pos (by omega)];exact hst _ _ (by omega) hk
 ·rw[hp.out i (by omega),hp.out j (by omega)];exact hl i j hi hij (by omega)
 ·rw[jL,if_pos (by omega),jL,if_pos (by omega)];exact hr _ _ (by omega) (by omega) (by omega)
 ·rw[jL,if_neg (by omega),if_pos (by omega),jL,if_neg (by omega),if_pos (by omega)];exact hl _ _ (by omega) (by omega) (by omega)
 ·rw[hp.out i (by omega),hp.out j (by omega)];exact hr i j (by omega) hij hj
 ·by_cases c1:x<s
  ·rw[hp.out x (by omega)];by_cases c2:y<e
   ·rw[jL,if_neg (by omega),if_pos (by omega)];exact hl _ _ hx1 (by omega) (by omega)
   ·rw[hp.out y (by omega)];exact h.ll x y hx1 c1 (by omega) hy2
  ·rw[jL,if_pos (by omega)];by_cases c2:y<e
   ·rw[jL,if_neg (by omega),if_pos (by omega)];exact Int.le_of_lt (h.rl _ _ (by omega) (by omega) (by omega) (by omega))
   ·rw[hp.out y (by omega)];exact hr _ _ (by omega) (by omega) hy2
theorem Srt.join {k:Nat→Int} {q r:Nat→Nat} {a m b:Nat} (h:∀x y,a≤x→x<m→m≤y→y<b→k (q x)≤k (q y)) (h1:Srt k r a m) (h2:Srt k r m b)
  (hl:∀x,a≤x→x<m→∃x',a≤x'∧x'<m∧r x=q x') (hr:∀y,m≤y→y<b→∃y',m≤y'∧y'<b∧r y=q y'):Srt k r a b:=by
 intro x y hx hxy hy;by_cases c1:y<m
 ·exact h1 x y hx hxy c1
 ·by_cases c2:m≤x
  ·exact h2 x y c2 hxy hy
  ·obtain⟨x',a1,a2,e1⟩:=hl x hx (by omega);obtain⟨y',b1,b2,e2⟩:=hr y (by omega) hy;rw[e1,e2];exact h x' y' a1 a2 b1 b2
end Go.Proofs.Ytlclleihoampdaa
namespace Go.Proofs.Ytlclleihoampdaa
open Go Go.Sx Go.Proofs
def kfP (k:Nat→Int) (x l c:Nat→Nat) (N C:Nat) (p:Nat→Nat):SB:=.bufA 201 2 N (fun m=>[.int .u64 (k (p m)),.val (.slice (some ⟨x (p m),0,none⟩) (l (p m)) (c (p m)))]) C
end Go.Proofs.Ytlclleihoampdaa
namespace Go.Proofs.Ytlclleihoampdaa
def LR (a m b mid n lo r0:Nat):Prop:=(mid<m∧lo=n-b∧r0=mid)∨(m≤mid∧lo=a∧r0=m)
theorem LR.in {a m b mid n lo r0:Nat} (h:LR a m b mid n lo r0) (h1:a<m) (h2:m<b) (hmid:mid=(a+b) / 2) (hn:n=mid+m):a≤lo∧r0≤m∧lo≤r0∧∀x,lo≤x→x<r0→m≤n-1-x∧n-1-x<b∧x<n:=by
 rcases h with⟨h3,h4,h5⟩|⟨h3,h4,h5⟩
 ·exact⟨by omega,by omega,by omega,fun x e1 e2=>by omega⟩
 ·exact⟨by omega,by omega,by omega,fun x e1 e2=>by omega⟩
theorem Srt.keep {k:Nat→Int} {q1 q2:Nat→Nat} {a mid x y:Nat} (h2:PermOn q1 q2 a mid) (h:Srt k q1 x y) (hx:mid≤x):Srt k q2 x y:=fun i j e1 e2 e3=>by
 rw[h2.out i (by omega),h2.out j (by omega)];exact h i j e1 e2 e3
@[irreducible] def LoF (k:Nat→Int) (p:Nat→Nat) (n lo i:Nat):Prop:=∀x,lo≤x→x<i→k (p x)≤k (p (n-1-x))
@[irreducible] def HiF (k:Nat→Int) (p:Nat→Nat) (n j r0:Nat):Prop:=∀x,j≤x→x<r0→k (p (n-1-x))<k (p x)
theorem LoF.of {k:Nat→Int} {p:Nat→Nat} {n lo i:Nat} (h:∀x,lo≤x→x<i→k (p x)≤k (p (n-1-x))):LoF k p n lo i:=by unfold LoF;exact h
theorem HiF.of {k:Nat→Int} {p:Nat→Nat} {n j r0:Nat} (h:∀x,j≤x→x<r0→k (p (n-1-x))<k (p x)):HiF k p n j r0:=by unfold HiF;exact h
theorem LoF.out {k:Nat→Int} {p:Nat→Nat} {n lo i:Nat} (h:LoF k p n lo i):∀x,lo≤x→x<i→k (p x)≤k (p (n-1-x)):=by unfold LoF at h;exact h
theorem HiF.out {k:Nat→Int} {p:Nat→Nat} {n j r0:Nat} (h:HiF k p n j r0):∀x,j≤x→x<r0→k (p (n-1-x))<k (p x):=by unfold HiF at h;exact h
@[irreducible] def LRi (a m b mid n lo r0:Nat):Prop:=LR a m b mid n lo r0
theorem LRi.of {a m b mid n lo r0:Nat} (h:LR a m b mid n lo r0):LRi a m b mid n lo r0:=by unfold LRi;exact h
theorem LRi.out {a m b mid n lo r0:Nat} (h:LRi a m b mid n lo r0):LR a m b mid n lo r0:=by unfold LRi at h;exact h
end Go.Proofs.Ytlclleihoampdaa
namespace Go.Proofs.Ytlclleihoampdaa
open Go Go.Sx Go.Proofs
structure MEx (P:Program) (k:Nat→Int) (x l c:Nat→Nat) (N C cap:Nat) (p:Nat→Nat) (a m mid b i e:Nat) (aI iI dI mI bI:Int) (Q1:Nat→Nat):Prop where
 rid:¬(i<m∧m<e)→Q1=p
 rot:∀eI:Int,eI=(e:Int)→i<m→m<e→Con P 140 [.slice 0 .z 2 N cap,.int .i64 iI,.int .i64 mI,.int .i64 eI,.fn 131 [.ptr 1 .z 1 0]] [kfP k x l c N C p,.one 202 [.fn 115 []]]
   (fun v H R=>v=.tup []∧R=[]∧H=[kfP k x l c N C Q1,.one 202 [.fn 115 []]])
 r1:a<i→i<mid→Con P 139 [.slice 0 .z 2 N cap,.int .i64 aI,.int .i64 iI,.int .i64 dI,.fn 131 [.ptr 1 .z 1 0]] [kfP k x l c N C Q1,.one 202 [.fn 115 []]]
   (fun v H R=>v=.tup []∧R=[]∧∃r,(PermOn Q1 r a mid∧St k r∧Srt k r a mid)∧H=[kfP k x l c N C r,.one 202 [.fn 115 []]])
 n1:¬(a<i∧i<mid)→PermOn Q1 Q1 a mid∧St k Q1∧Srt k Q1 a mid
 r2:∀(eI:Int),eI=(e:Int)→∀Q2,PermOn Q1 Q2 a mid→St k Q2→mid<e→e<b→Con P 139 [.slice 0 .z 2 N cap,.int .i64 dI,.int .i64 eI,.int .i64 bI,.fn 131 [.ptr 1 .z 1 0]] [kfP k x l c N C Q2,.one 202 [.fn 115 []]]
   (fun v H R=>v=.tup []∧R=[]∧∃r,(PermOn Q2 r mid b∧St k r∧Srt k r mid b)∧H=[kfP k x l c N C r,.one 202 [.fn 115 []]])
 n2:∀Q2,PermOn Q1 Q2 a mid→St k Q2→¬(mid<e∧e<b)→PermOn Q2 Q2 mid b∧St k Q2∧Srt k Q2 mid b
 fin:∀Q2 Q3,PermOn Q1 Q2 a mid→Srt k Q2 a mid→PermOn Q2 Q3 mid b→St k Q3→Srt k Q3 mid b→PermOn p Q3 a b∧St k Q3∧Srt k Q3 a b
 x1:¬i<m→¬mid<e
 x2:i<m→¬m<e→¬i<mid∧a<i∧e<b
structure MRd (k:Nat→Int) (p:Nat→Nat) (N n lo r0 i j h g:Nat) (iI jI:Int) (vb:BinOp→IntKind→Int→Int→Int) (vw:IntKind→Int→Int) (vtoN:Int→Nat) (pI:Int):Prop where
 u:∀u:Int,u=vw .i64 (vb .shr .u64 (vw .u64 (vb .add .i64 iI jI)) 1)→u=(h:Int)∧vtoN u=h∧InR u N
 v:∀u v:Int,u=(h:Int)→v=vb .sub .i64 pI u→vtoN v=g∧InR v N
 lh:h<N
 lg:g<N
 l0:0<N
 a:¬k (p g)<k (p h)→∀u v:Int,u=(h:Int)→v=vb .add .i64 u 1→∃h1:Nat,(v=h1∧jI=j∧lo≤h1∧h1≤j∧j≤r0∧LoF k p n lo h1∧HiF k p n j r0)∧j-h1<j-i
 b:k (p g)<k (p h)→∀u:Int,u=(h:Int)→(iI=i∧u=h∧lo≤i∧i≤h∧h≤r0∧LoF k p n lo i∧HiF k p n h r0)∧h-i<j-i
end Go.Proofs.Ytlclleihoampdaa
namespace Go.Proofs.Ytlclleihoampdaa
@[irreducible] def RunsFrom (k:Nat→Int) (q:Nat→Nat) (B a n:Nat):Prop:=∀s,Srt k q (a+s*B) (min (a+(s+1)*B) n)
@[irreducible] def RunsTo (k:Nat→Int) (q:Nat→Nat) (B a:Nat):Prop:=∃t,a=t*B∧∀s,s<t→Srt k q (s*B) ((s+1)*B)
theorem RunsTo.nil {k:Nat→Int} {q:Nat→Nat} {B:Nat}:RunsTo k q B 0:=by
 unfold RunsTo;exact⟨0,by simp,fun s h=>by omega⟩
theorem RunsTo.next {k:Nat→Int} {q q':Nat→Nat} {B a:Nat} (h:RunsTo k q B a) (hp:PermOn q q' a (a+B)) (hs:Srt k q' a (a+B)):RunsTo k q' B (a+B):=by
 unfold RunsTo at h ⊢
 obtain⟨t,ht,h⟩:=h;refine⟨t+1,by rw[ht,Nat.succ_mul],fun s hst=>?_⟩
 by_cases e:s=t
 ·subst e;rw[Nat.succ_mul,←ht];exact hs
 ·have h1:=h s (by omega);have h2:(s+1)*B≤t*B:=Nat.mul_le_mul_right _ (by omega);intro i j e1 e2 e3;rw[hp.out i (by omega),hp.out j (by omega)];exact h1 i j e1 e2 e3
theorem RunsFrom.two {k:Nat→Int} {q:Nat→Nat} {B a n:Nat} (h:RunsFrom k q B a n):Srt k q a (min (a+B) n)∧Srt k q (a+B) (min (a+2*B) n):=by
 unfold RunsFrom at h;have h0:=h 0;have h1:=h 1;simp only[Nat.zero_mul,Nat.add_zero,Nat.zero_add,Nat.one_mul] at h0 h1;exact⟨h0,h1⟩
theorem RunsFrom.next {k:Nat→Int} {q q':Nat→Nat} {B a n:Nat} (h:RunsFrom k q B a n) (hp:PermOn q q' a (a+2*B)):RunsFrom k q' B (a+2*B) n:=by
 unfold RunsFrom at h ⊢
 intro s i j e1 e2 e3;have h1:=h (s+2) i j;have e4:(s+2)*B=s*B+2*B:=by rw[Nat.add_mul]
 have e5:(s+2+1)*B=(s+1)*B+2*B:=by rw[show s+2+1=(s+1)+2 by omega,Nat.add_mul]
 rw[e4,e5] at h1;rw[hp.out i (by omega),hp.out j (by omega)];exact h1 (by omega) e2 (by omega)
structure Half (k:Nat→Int) (q:Nat→Nat) (B a n:Nat):Prop where
 to:RunsTo k q (2*B) a
 fr:RunsFrom k q B a n
theorem Half.start {k:Nat→Int} {q:Nat→Nat} {B n:Nat} (h:RunsFrom k q B 0 n):Half k q B 0 n:=⟨RunsTo.nil,h⟩
theorem Half.next {k:Nat→Int} {q q':Nat→Nat} {B a n:Nat} (h:Half k q B a n) (hp:PermOn q q' a (a+2*B)) (hs:Srt k q' a (a+2*B)):Half k q' B (a+2*B) n:=⟨h.to.next hp hs,h.fr.next hp⟩
theorem Half.pre {k:Nat→Int} {q:Nat→Nat} {B a n b:Nat} (h:Half k q B a n) (hb:b=min (a+2*B) n) (hm:a+B≤n):Srt k q a (a+B)∧Srt k q (a+B) b:=by
 obtain⟨h1,h2⟩:=h.fr.two;rw[Nat.min_eq_left hm] at h1;rw[hb];exact⟨h1,h2⟩
theorem RunsFrom.done {k:Nat→Int} {q:Nat→Nat} {B n:Nat} (h:RunsFrom k q B 0 n) (hb:n≤B):Srt k q 0 n:=by
 obtain⟨h1,_⟩:=h.two;rw[Nat.zero_add,Nat.min_eq_right hb] at h1;exact h1
end Go.Proofs.Ytlclleihoampdaa
