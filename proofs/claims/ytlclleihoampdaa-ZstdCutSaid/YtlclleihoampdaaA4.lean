import Derived.Test.YtlclleihoampdaaA1
import Derived.Test.YtlclleihoampdaaED
import Derived.Test.YtlclleihoampdaaA2
import Derived.Test.YtlclleihoampdaaA3
set_option linter.unusedVariables false
set_option linter.unusedSimpArgs false
namespace Go.Proofs.Ytlclleihoampdaa
open Go Go.Sx Go.Proofs
def tbK:Tab:=[]
theorem knD:keh Try.prog tbK:=trivial
set_option maxRecDepth 100000 in
set_option maxHeartbeats 4000000 in
theorem kjK:Con Try.prog 61 [.int .i64 16,.int .i64 16,.slice 0 .z 1 20 20] [.ints 3 .i64 [1,1,1,1,2,2,3,3,4,6,7,8,9,10,11,12,13,14,15,16]]
  (fun v H R=>v=.tup [.fn 90 [.ptr 1 .z 1 0,.ptr 4 .z 1 0,.ptr 3 .z 1 0,.ptr 2 .z 1 0],.fn 91 [.ptr 3 .z 1 0,.ptr 4 .z 1 0,.ptr 1 .z 1 0,.ptr 2 .z 1 0]] ∧
   H=[.ints 3 .i64 [1,1,1,1,2,2,3,3,4,6,7,8,9,10,11,12,13,14,15,16],.one 3 [.int .i64 16],.one 63 [.slice 0 .z 1 20 20],
    .ints 173 .i64 [16,18,20,22,24,28,32,40,48,64,128,256,512,1024,2048,4096,8192,16384,32768,65536,0,0,0,0,0,0,0,0,0,0,0,0],.one 3 [.int .i64 0]]∧R=[]):=by
 have hT:=knD;have hm:=kj;refine kf (kkd 1000 tbK kj hT kqZ ?_)
 generalize Try.prog=P at *;cbv;repeat (first|refine And.intro ⟨by decide⟩ ?_|refine And.intro ⟨Nat.le_refl _⟩ ?_|((intro _ _ _;skip);cbv;done)|((intro _ _ _;skip);cbv)|((intro _ _;skip);cbv)|(intro _;cbv))
 trivial
set_option maxRecDepth 100000 in
set_option maxHeartbeats 4000000 in
theorem kjL:Con Try.prog 61 [.int .i64 32,.int .i64 35,.slice 0 .z 1 21 21] [.ints 3 .i64 [1,1,1,1,2,2,3,3,4,4,5,7,8,9,10,11,12,13,14,15,16]]
  (fun v H R=>v=.tup [.fn 90 [.ptr 1 .z 1 0,.ptr 4 .z 1 0,.ptr 3 .z 1 0,.ptr 2 .z 1 0],.fn 91 [.ptr 3 .z 1 0,.ptr 4 .z 1 0,.ptr 1 .z 1 0,.ptr 2 .z 1 0]] ∧
   H=[.ints 3 .i64 [1,1,1,1,2,2,3,3,4,4,5,7,8,9,10,11,12,13,14,15,16],.one 3 [.int .i64 32],.one 63 [.slice 0 .z 1 21 21],
    .ints 173 .i64 [35,37,39,41,43,47,51,59,67,83,99,131,259,515,1027,2051,4099,8195,16387,32771,65539,0,0,0,0,0,0,0,0,0,0,0],.one 3 [.int .i64 3]]∧R=[]):=by
 have hT:=knD;have hm:=kj;refine kf (kkd 1000 tbK kj hT kqZ ?_)
 generalize Try.prog=P at *;cbv;repeat (first|refine And.intro ⟨by decide⟩ ?_|refine And.intro ⟨Nat.le_refl _⟩ ?_|((intro _ _ _;skip);cbv;done)|((intro _ _ _;skip);cbv)|((intro _ _;skip);cbv)|(intro _;cbv))
 trivial
def kdm:List Int:=[4,3,2,2,2,2,2,2,2,2,2,2,2,1,1,1,2,2,2,2,2,2,2,2,2,3,2,1,1,1,1,1]++[-1,-1,-1,-1]
def kdW:List Int:=[1,1,1,1,1,1,2,2,2,1,1,1,1,1,1,1,1,1,1,1,1,1,1,1,-1,-1,-1,-1,-1]
def cntM:List Int:=[1,4,3,2,2,2,2,2,2]++List.replicate 37 1++List.replicate 7 (-1)
theorem knE:cntM.length=53:=by decide
theorem cntM_9:cntM.take 9=[1,4,3,2,2,2,2,2,2]:=by decide
theorem klZ:∀k,k<53→9≤k→cntM.take (k+1)=cntM.take k++[if 45<k then -1 else 1]:=by decide +kernel
theorem knF:cntM.take 53=cntM:=by decide
def kkw:List Int:=[1,1,1,1,2,2,3,3,4,6,7,8,9,10,11,12,13,14,15,16]
def kkx:List Int:=[1,1,1,1,2,2,3,3,4,4,5,7,8,9,10,11,12,13,14,15,16]
def koI:List Int:=[16,18,20,22,24,28,32,40,48,64,128,256,512,1024,2048,4096,8192,16384,32768,65536,0,0,0,0,0,0,0,0,0,0,0,0]
def koJ:List Int:=[35,37,39,41,43,47,51,59,67,83,99,131,259,515,1027,2051,4099,8195,16387,32771,65539,0,0,0,0,0,0,0,0,0,0,0]
set_option maxRecDepth 100000 in
set_option maxHeartbeats 4000000 in
theorem kl0 (cL cB cM bL bM gL gM:List Int) (hcL:cL=kdm) (hcB:cB=kdW) (hcM:cM=cntM) (hbL:bL=kkw) (hbM:bM=kkx) (hgL:gL=koI) (hgM:gM=koJ) :
  Con Try.prog 24 [] [] (fun v H R=>R=[]∧∃c,
   v=.agg [.int .i64 9,.int .i64 35,.int .i64 6,.slice 0 .z 1 36 36,.fn 90 [.ptr 4 .z 1 0,.ptr 7 .z 1 0,.ptr 6 .z 1 0,.ptr 5 .z 1 0],.fn 91 [.ptr 6 .z 1 0,.ptr 7 .z 1 0,.ptr 4 .z 1 0,.ptr 5 .z 1 0],.fn 60 [],
    .int .i64 8,.int .i64 31,.int .i64 5,.slice 1 .z 1 29 29,.fn 64 [],.fn 65 [],.fn 63 [],
    .int .i64 9,.int .i64 52,.int .i64 6,.slice 2 .z 1 53 c,.fn 90 [.ptr 9 .z 1 0,.ptr 12 .z 1 0,.ptr 11 .z 1 0,.ptr 10 .z 1 0],.fn 91 [.ptr 11 .z 1 0,.ptr 12 .z 1 0,.ptr 9 .z 1 0,.ptr 10 .z 1 0],.fn 62 []] ∧
   H=[.ints 124 .i16 cL,.ints 124 .i16 cB,.buf 124 .i16 cM c,.ints 3 .i64 bL,.one 3 [.int .i64 16],.one 63 [.slice 3 .z 1 20 20],.ints 173 .i64 gL,.one 3 [.int .i64 0],
    .ints 3 .i64 bM,.one 3 [.int .i64 32],.one 63 [.slice 8 .z 1 21 21],.ints 173 .i64 gM,.one 3 [.int .i64 3]]):=by
 have e1:bL=[1,1,1,1,2,2,3,3,4,6,7,8,9,10,11,12,13,14,15,16]:=hbL;have e2:bM=[1,1,1,1,2,2,3,3,4,4,5,7,8,9,10,11,12,13,14,15,16]:=hbM;have e3:gL=[16,18,20,22,24,28,32,40,48,64,128,256,512,1024,2048,4096,8192,16384,32768,65536,0,0,0,0,0,0,0,0,0,0,0,0]:=hgL;have e4:gM=[35,37,39,41,43,47,51,59,67,83,99,131,259,515,1027,2051,4099,8195,16387,32771,65539,0,0,0,0,0,0,0,0,0,0,0]:=hgM;have e5:cL=[4,3,2,2,2,2,2,2,2,2,2,2,2,1,1,1,2,2,2,2,2,2,2,2,2,3,2,1,1,1,1,1]++[-1,-1,-1,-1]:=hcL;have e6:cB=[1,1,1,1,1,1,2,2,2,1,1,1,1,1,1,1,1,1,1,1,1,1,1,1,-1,-1,-1,-1,-1]:=hcB;clear hcL hcB hbL hbM hgL hgM;have hL:=kjK;have hM:=kjL;refine kf (jh (kg (kc kj kqU ?_)))
 intro _ vc _ _ vofN vaddN _ _ _ _ _ _ vln _ vsub vonto _ _ _ _ _ hw _ qc _ _ qofN qaddN _ _ _ _ _ _ qln _ qsub qonto _ _ _ _ _;have hm:=kj;generalize Try.prog=P at *;have hofn:∀n,vofN n=(n:Int):=fun n=>by simp only[qofN]
 cbv;refine ka (ρ:=[(3,.z)]) hL ⟨by rfl,by rfl,by rfl,by cbv⟩ ?_
 rintro v H R js ⟨rfl,rfl,rfl⟩;cbv;refine ka (ρ:=[(9,.z)]) hM ⟨by rfl,by rfl,by rfl,by cbv⟩ ?_
 rintro v H R js2 ⟨rfl,rfl,rfl⟩;cbv;refine kG (α:=Nat×Nat×List Int) ([3,22]++(List.range' 24 14)) [14] (fun _=>[]) (fun(k,c,ls)=>[(8,.one 58 [.lit .i64 9,.lit .i64 52,.lit .i64 6,.slice 14 .z 1 k c,.fn 90 [.ptr 10 .z 1 0,.ptr 13 .z 1 0,.ptr 12 .z 1 0,.ptr 11 .z 1 0],.fn 91 [.ptr 12 .z 1 0,.ptr 13 .z 1 0,.ptr 10 .z 1 0,.ptr 11 .z 1 0],.fn 62 []]),(14,.buf 124 .i16 ls c)])
  (fun(k,c,ls)=>ls=cntM.take k∧9≤k∧k≤53) (fun(k,_)=>53-k) hw hm ?_ ?_
 ·refine Cv.intsB 14 9 (by rfl) (by rfl) (Cv.fold ([3,22]++(List.range' 24 14)) 15 [14] (by exact Nat.le_refl _) (by exact Nat.le_of_ble_eq_true rfl) (by rfl) (by cbv) ?_)
  intro js;refine⟨(9,9,[1,4,3,2,2,2,2,2,2]),?_,js,rfl⟩
  exact⟨cntM_9.symm,Nat.le_refl _,by decide⟩
 ·rintro⟨k,c,ls⟩ js ⟨hls,hk1,hk2⟩;obtain⟨ki,hki⟩:∃ki:Int,ki=(k:Int):=⟨_,rfl⟩;have ek:vofN k=ki:=by rw[hofn,hki]
  by_cases hk:k<53
  ·have h1:vc .lss ki 53=true:=by rw[qc,ko];omega
   obtain⟨x,hx⟩:∃x:Int,x=if 45<k then -1 else 1:=⟨_,rfl⟩
   have hnx:=klZ k hk hk1;rw[←hls,←hx] at hnx;obtain⟨ls1,hls1⟩:∃ls1,ls1=ls++[x]:=⟨_,rfl⟩;have hll:ls.length=k:=by rw[hls,List.length_take,knE];omega
   have honto:vonto ls k (vsub [x] 0 1)=ls1:=by simp only[qonto,qsub];rw[hls1,←hll];simp
   have hadd1:vaddN k 1=k+1:=by simp only[qaddN]
   have hadd0:vaddN 0 1=1:=by simp only[qaddN]
   have hln:vln ls=k:=by simp only[qln];exact hll
   have hln1:vln [x]=1:=by simp only[qln];rfl
   have hmu:53-(k+1)<53-k:=by omega
   have hinv:ls1=cntM.take (k+1)∧9≤k+1∧k+1≤53:=⟨by rw[hnx,hls1],by omega,by omega⟩;by_cases h45:45<k
   ·have h2:vc .gtr ki 45=true:=by rw[qc,gtr_true];omega
    rw[if_pos h45] at hx;cbv;rw[ek];rw[h1];cbv;rw[ek,h2];cbv;rw[←hx];refine⟨⟨by rw[hadd0,hln1];exact Nat.le_refl _⟩,⟨by rw[hln];exact Nat.le_refl _⟩,⟨Nat.le_refl _⟩,⟨by rw[hadd1];omega⟩,?_⟩
    intro c1 js1 hle1;cbv;rw[honto,hadd1];refine Cv.fold ([3,22]++(List.range' 24 14)) 15 [14] (by exact Nat.le_refl _) (by exact Nat.le_of_ble_eq_true rfl) (by rfl) (by cbv) ?_
    intro js;refine⟨(k+1,c1,ls1),?_,js,rfl⟩
    exact⟨hinv,hmu⟩
   ·have h2:vc .gtr ki 45=false:=by rw[qc,gtr_false];omega
    rw[if_neg h45] at hx;cbv;rw[ek];rw[h1];cbv;rw[ek,h2];cbv;rw[←hx];refine⟨⟨by rw[hadd0,hln1];exact Nat.le_refl _⟩,⟨by rw[hln];exact Nat.le_refl _⟩,⟨Nat.le_refl _⟩,⟨by rw[hadd1];omega⟩,?_⟩
    intro c1 js1 hle1;cbv;rw[honto,hadd1];refine Cv.fold ([3,22]++(List.range' 24 14)) 15 [14] (by exact Nat.le_refl _) (by exact Nat.le_of_ble_eq_true rfl) (by rfl) (by cbv) ?_
    intro js;refine⟨(k+1,c1,ls1),?_,js,rfl⟩
    exact⟨hinv,hmu⟩
  ·have h1:vc .lss ki 53=false:=by rw[qc,km];omega
   obtain rfl:k=53:=by omega
   rw[knF,←hcM] at hls;cbv;rw[ek,h1];cbv;refine⟨[1,15,14,3,4,5,6,7,9,10,11,12,13],.agg [.lit .i64 9,.lit .i64 35,.lit .i64 6,.slice 0 .z 1 36 36,.fn 90 [.ptr 4 .z 1 0,.ptr 7 .z 1 0,.ptr 6 .z 1 0,.ptr 5 .z 1 0],.fn 91 [.ptr 6 .z 1 0,.ptr 7 .z 1 0,.ptr 4 .z 1 0,.ptr 5 .z 1 0],.fn 60 [],
    .lit .i64 8,.lit .i64 31,.lit .i64 5,.slice 1 .z 1 29 29,.fn 64 [],.fn 65 [],.fn 63 [],
    .lit .i64 9,.lit .i64 52,.lit .i64 6,.slice 2 .z 1 53 c,.fn 90 [.ptr 9 .z 1 0,.ptr 12 .z 1 0,.ptr 11 .z 1 0,.ptr 10 .z 1 0],.fn 91 [.ptr 11 .z 1 0,.ptr 12 .z 1 0,.ptr 9 .z 1 0,.ptr 10 .z 1 0],.fn 62 []],
    [.ints 124 .i16 cL,.ints 124 .i16 cB,.buf 124 .i16 ls c,.ints 3 .i64 bL,.one 3 [.int .i64 16],.one 63 [.slice 3 .z 1 20 20],.ints 173 .i64 gL,.one 3 [.int .i64 0],
    .ints 3 .i64 bM,.one 3 [.int .i64 32],.one 63 [.slice 8 .z 1 21 21],.ints 173 .i64 gM,.one 3 [.int .i64 3]],?_⟩
   rw[e1,e2,e3,e4,e5,e6];exact⟨rfl,rfl,rfl,rfl,⟨rfl,rfl,rfl,rfl,rfl,rfl,rfl,rfl,rfl,rfl,rfl,rfl,rfl,trivial⟩,rfl,c,rfl,by rw[←hls];rfl⟩
set_option maxRecDepth 10000
set_option maxHeartbeats 40000000
set_option maxHeartbeats 4000000
def ofK (first low:Int) (g bl:List Int) (c:Int):Int×Int:=if c<first then(c+low,0) else(g.getD (c-first).toNat 0,bl.getD (c-first).toNat 0)
theorem knG (first low c:Int) (g bl:List Int) (m cap:Nat) (hg:g.length=32) (hbm:bl.length=m) (hm2:m≤32) (hc:0≤c) (hf:0≤first) (hc2:c<first+m) (hlow:0≤low) (hb:first+m+low<1000000) :
  Con Try.prog 90 [.int .i64 c,.ptr 0 .z 1 0,.ptr 1 .z 1 0,.ptr 2 .z 1 0,.ptr 3 .z 1 0] [.one 3 [.int .i64 first],.one 3 [.int .i64 low],.ints 173 .i64 g,.one 63 [.slice 4 .z 1 m cap],.ints 3 .i64 bl]
   (fun v H R=>v=.tup [.int .i64 (ofK first low g bl c).1,.int .i64 (ofK first low g bl c).2]∧H=[.one 3 [.int .i64 first],.one 3 [.int .i64 low],.ints 173 .i64 g,.one 63 [.slice 4 .z 1 m cap],.ints 3 .i64 bl]∧R=[]):=by
 refine kf (kc kj ksg ?_)
 intro vb vc _ vtoN _ vaddN _ _ _ _ vgd _ vln _ _ _ _ _ _ _ _ _ qb qc _ qtoN _ qaddN _ _ _ _ qgd _ qln _ _ _ _ _ _ _ _;have hm:=kj;generalize Try.prog=P at *;obtain⟨p,hp⟩:∃p,p=ofK first low g bl c:=⟨_,rfl⟩
 rw[←hp];unfold ofK at hp;have hln:vln g=32:=by simp only[qln];exact hg
 have hlb:vln bl=m:=by simp only[qln];exact hbm
 by_cases h:c<first
 ·have h1:vc .lss c first=true:=by rw[qc,ko];exact h
  have h2:vb .add .i64 c low=c+low:=by rw[qb];exact ku (by omega) (by omega)
  obtain⟨s,hs⟩:∃s,s=c+low:=⟨_,rfl⟩;rw[if_pos h,←hs] at hp;rw[←hs] at h2;subst hp;cbv;rw[h1];cbv;rw[h2];trivial
 ·have h1:vc .lss c first=false:=by rw[qc,km];exact h
  obtain⟨k,hk⟩:∃k:Nat,c-first=k:=⟨(c-first).toNat,by omega⟩
  obtain⟨ki,hki⟩:∃ki:Int,ki=k:=⟨_,rfl⟩;have h2:vb .sub .i64 c first=ki:=by rw[qb,hki,←hk];exact kJ (by omega) (by omega)
  have h3:vtoN ki=k:=by simp only[qtoN];rw[hki];exact Int.toNat_natCast k
  have h4:vaddN 0 k=k:=by simp only[qaddN];omega
  have hin:0≤ki∧ki<32:=by omega
  have hin2:0≤ki∧ki<(m:Int):=by omega
  have hkm:k<m:=by omega
  obtain⟨x,hx⟩:∃x,x=g.getD k 0:=⟨_,rfl⟩;obtain⟨y,hy⟩:∃y,y=bl.getD k 0:=⟨_,rfl⟩;have h5:vgd g k=x:=by simp only[qgd];exact hx.symm
  have h6:vgd bl k=y:=by simp only[qgd];exact hy.symm
  rw[if_neg h,hk,Int.toNat_natCast,←hx,←hy] at hp;have hk32:k<32:=by omega
  subst hp;cbv;rw[h1];cbv;rw[h2,h3];refine⟨⟨hin⟩,⟨by rw[hln];exact hk32⟩,?_⟩
  rw[h5];refine⟨⟨hin2⟩,⟨by rw[hlb];exact hkm⟩,?_⟩
  rw[h6];trivial
theorem koK (c:Int) (hc:0≤c∧c≤60):Con Try.prog 64 [.int .i64 c] [] (fun v H R=>v=.tup [.int .i64 (2^c.toNat),.int .i64 c]∧H=[]∧R=[]):=by
 refine kf (kc kj kr7 ?_)
 intro vb _ vw _ _ _ _ _ _ _ _ _ _ _ _ _ _ _ _ _ _ _ qb _ qw _ _ _ _ _ _ _ _ _ _ _ _ _ _ _ _ _ _;have hm:=kj;generalize Try.prog=P at *;obtain⟨p,hp⟩:∃p:Int,p=2^c.toNat:=⟨_,rfl⟩;have e1:vw .u64 c=c:=by rw[qw];exact wrap_u64 (by omega) (by omega)
 have e2:vb .shl .i64 1 c=p:=by rw[qb,hp];exact kdR hc.1 (by omega)
 have hnn:0≤c:=hc.1;rw[←hp];cbv;rw[e1];refine⟨⟨hnn⟩,?_⟩
 rw[e2];trivial
structure Tb where
 n:Nat
 a:Nat→Int
 b:Nat→Int
 c:Nat→Int
def mkT (cs:List Int) (log:Int):Tb:=⟨(2^log.toNat:Int).toNat,qF cs (2^log.toNat),kbV cs log (2^log.toNat) (2^log.toNat:Int).toNat,kbA cs log (2^log.toNat) (2^log.toNat:Int).toNat⟩
def kjM (x:Int):Tb:=⟨1,fun _=>x,fun _=>0,fun _=>0⟩
def qP (lg most ah:Int) (cnt:List Int) (way:Int) (b:List Int) (T:Tb):Int×Int×Tb:=
 if way=0 then(0,0,mkT cnt ah)
 else if way=1 then(if b.length=0 then(10,0,T) else if most<b.getD 0 0 then(11,0,T) else(0,1,kjM (b.getD 0 0)))
 else if way=2 then(if (j4 b lg most).2.2.2=10 then(10,0,T) else if (j4 b lg most).2.2.2≠0∨¬jL (j4 b lg most).1 (j4 b lg most).2.1 then(11,0,T)
  else(0,(j4 b lg most).2.2.1,mkT (j4 b lg most).1 (j4 b lg most).2.1))
 else if T.n=0 then(11,0,T) else(0,0,T)
def kH (cL cB cM bL bM gL gM b:List Int) (cm:Nat) (B:SB):List SB:=[.one 59 [.int .i64 9,.int .i64 35,.int .i64 6,.slice 3 .z 1 36 36,.fn 90 [.ptr 7 .z 1 0,.ptr 10 .z 1 0,.ptr 9 .z 1 0,.ptr 8 .z 1 0],.fn 91 [.ptr 9 .z 1 0,.ptr 10 .z 1 0,.ptr 7 .z 1 0,.ptr 8 .z 1 0],.fn 60 [],.int .i64 8,.int .i64 31,.int .i64 5,.slice 4 .z 1 29 29,.fn 64 [],.fn 65 [],.fn 63 [],.int .i64 9,.int .i64 52,.int .i64 6,.slice 5 .z 1 53 cm,.fn 90 [.ptr 12 .z 1 0,.ptr 15 .z 1 0,.ptr 14 .z 1 0,.ptr 13 .z 1 0],.fn 91 [.ptr 14 .z 1 0,.ptr 15 .z 1 0,.ptr 12 .z 1 0,.ptr 13 .z 1 0],.fn 62 []],.ro .u8 b,B,.ints 124 .i16 cL,.ints 124 .i16 cB,.buf 124 .i16 cM cm,.ints 3 .i64 bL,.one 3 [.int .i64 16],.one 63 [.slice 6 .z 1 20 20],.ints 173 .i64 gL,.one 3 [.int .i64 0],.ints 3 .i64 bM,.one 3 [.int .i64 32],.one 63 [.slice 11 .z 1 21 21],.ints 173 .i64 gM,.one 3 [.int .i64 3]]
theorem kqy (PT:SV→List SB→List Nat→Prop) (cL cB cM bL bM gL gM b:List Int) (cm cap An Ac acap:Nat) (Oa Ob Oc:Nat→Int) (N:Nat) (A B C:Nat→Int) (hlen:cL.length=36)
  (hT:Con Try.prog 66 [.slice 0 .z 1 cL.length 36,.int .i64 6] [.ro .i16 cL] (fun v H R=>R=[]∧v=.tup [.slice 1 .z 3 N N,.int .i64 0]∧H=[.ro .i16 cL,.arr 79 3 N (fun m=>[.int .u8 (A m),.int .u8 (B m),.int .u16 (C m)])]))
  (h:PT (.tup [.slice 2 .z 3 N N,.int .i64 0,.int .i64 0]) (kH cL cB cM bL bM gL gM b cm (.bufA 79 3 N (fun m=>[.int .u8 (A m),.int .u8 (B m),.int .u16 (C m)]) N)) [2]):Con Try.prog 34 [.ptr 0 (.n 0) 7 0,.int .u8 0,.slice 1 .z 1 b.length cap,.slice 2 .z 3 An acap] (kH cL cB cM bL bM gL gM b cm (.bufA 79 3 An (fun m=>[.int .u8 (Oa m),.int .u8 (Ob m),.int .u16 (Oc m)]) Ac)) PT:=by
 rw[hlen] at hT;refine kR (kf (kD (kg (kc kj qB ?_))))
 intro _ vc _ _ _ _ _ _ _ _ _ _ _ _ _ _ _ _ _ _ _ _ _ qc _ _ _ _ _ _ _ _ _ _ _ _ _ _ _ _ _ _ _;have hm:=kj;generalize Try.prog=P at *;have h00:vc .eql 0 0=true:=by rw[qc];rfl
 generalize b.length=bl at *;cbv;rw[h00];cbv;refine ka (ρ:=[(3,.z)]) hT ⟨by rfl,by rfl,by rfl,by cbv;refine⟨fun _=>rfl,?_⟩;exact⟨kb _,trivial⟩⟩ ?_
 rintro v H R js ⟨rfl,rfl,rfl⟩;cbv;(repeat refine And.intro (fun _=>rfl) ?_);cbv;refine⟨[2],[0,1,16,3,4,5,6,7,8,9,10,11,12,13,14,15],.tup [.slice 2 .z 3 N N,.lit .i64 0,.int .i64 0],(kH cL cB cM bL bM gL gM b cm (.arr 79 3 N (fun m=>[.int .u8 (A m),.int .u8 (B m),.int .u16 (C m)]))),rfl,rfl,rfl,rfl,rfl,?_,?_⟩
 ·exact⟨rfl,rfl,rfl,fun _=>rfl,rfl,rfl,rfl,rfl,rfl,rfl,rfl,rfl,rfl,rfl,rfl,rfl,rfl,trivial⟩
 ·exact h
theorem koL (PT:SV→List SB→List Nat→Prop) (cL cB cM bL bM gL gM b:List Int) (cm cap An Ac acap:Nat) (Oa Ob Oc:Nat→Int) (hb:b.length=0) (h:PT (.tup [.val (.slice none 0 0),.int .i64 0,.int .i64 10]) (kH cL cB cM bL bM gL gM b cm (.bufA 79 3 An (fun m=>[.int .u8 (Oa m),.int .u8 (Ob m),.int .u16 (Oc m)]) Ac)) []):Con Try.prog 34 [.ptr 0 (.n 0) 7 0,.int .u8 1,.slice 1 .z 1 b.length cap,.slice 2 .z 3 An acap] (kH cL cB cM bL bM gL gM b cm (.bufA 79 3 An (fun m=>[.int .u8 (Oa m),.int .u8 (Ob m),.int .u16 (Oc m)]) Ac)) PT:=by
 refine kR (kf (kD (kg (kc kj qB ?_))))
 intro _ vc _ _ vofN _ _ _ _ _ _ _ _ _ _ _ _ _ _ _ _ _ _ qc _ _ qofN _ _ _ _ _ _ _ _ _ _ _ _ _ _ _ _;have hm:=kj;generalize Try.prog=P at *;have h10:vc .eql 1 0=false:=by rw[qc];rfl
 have h11:vc .eql 1 1=true:=by rw[qc];rfl
 have h00:vc .eql 0 0=true:=by rw[qc];rfl
 have ho:vofN 0=0:=by simp only[qofN];rfl
 rw[hb] at *
 cbv;rw[h10];cbv;rw[h11];cbv;rw[ho,h00];cbv;(repeat refine And.intro (fun _=>rfl) ?_);refine⟨[],[0,1,2,3,4,5,6,7,8,9,10,11,12,13,14,15],.tup [.val (.slice none 0 0),.lit .i64 0,.lit .i64 10],(kH cL cB cM bL bM gL gM b cm (.bufA 79 3 An (fun m=>[.int .u8 (Oa m),.int .u8 (Ob m),.int .u16 (Oc m)]) Ac)),rfl,rfl,rfl,rfl,rfl,?_,?_⟩
 ·exact⟨rfl,rfl,rfl,fun _=>rfl,rfl,rfl,rfl,rfl,rfl,rfl,rfl,rfl,rfl,rfl,rfl,rfl,rfl,trivial⟩
 ·exact h
theorem koM (PT:SV→List SB→List Nat→Prop) (cL cB cM bL bM gL gM b:List Int) (cm cap An Ac acap:Nat) (Oa Ob Oc:Nat→Int) (x:Int) (hx:b.getD 0 0=x) (hb:1≤b.length) (hx2:0≤x∧x<256) (hm:35<x) (h:PT (.tup [.val (.slice none 0 0),.int .i64 0,.int .i64 11]) (kH cL cB cM bL bM gL gM b cm (.bufA 79 3 An (fun m=>[.int .u8 (Oa m),.int .u8 (Ob m),.int .u16 (Oc m)]) Ac)) []):Con Try.prog 34 [.ptr 0 (.n 0) 7 0,.int .u8 1,.slice 1 .z 1 b.length cap,.slice 2 .z 3 An acap] (kH cL cB cM bL bM gL gM b cm (.bufA 79 3 An (fun m=>[.int .u8 (Oa m),.int .u8 (Ob m),.int .u16 (Oc m)]) Ac)) PT:=by
 refine kR (kf (kD (kg (kc kj qB ?_))))
 intro _ vc vw _ vofN vaddN _ _ _ _ vgd _ vln _ _ _ _ _ _ _ _ _ _ qc qw _ qofN qaddN _ _ _ _ qgd _ qln _ _ _ _ _ _ _ _;have hgt:vc .gtr x 35=true:=by rw[qc,gtr_true];exact hm
 clear hm;have hm:=kj;generalize Try.prog=P at *;have h10:vc .eql 1 0=false:=by rw[qc];rfl
 have h11:vc .eql 1 1=true:=by rw[qc];rfl
 obtain⟨bl,hbl⟩:∃bl,bl=b.length:=⟨_,rfl⟩;obtain⟨bi,hbi⟩:∃bi:Int,bi=bl:=⟨_,rfl⟩;have ho:vofN bl=bi:=by simp only[qofN];exact hbi.symm
 have hn0:vc .eql bi 0=false:=by rw[qc,kh];omega
 have hin:(0:Int)≤0∧(0:Int)<(bl:Int):=by omega
 have hadd:vaddN 0 0=0:=by simp only[qaddN]
 have hlb:vln b=bl:=by simp only[qln];exact hbl.symm
 have h0b:0<bl:=by omega
 have hg:vgd b 0=x:=by simp only[qgd];exact hx
 have hw8:vw .i64 x=x:=by rw[qw];exact wrap_i64 (by omega) (by omega)
 rw[←hbl];cbv;rw[h10];cbv;rw[h11];cbv;rw[ho,hn0];cbv;refine⟨⟨hin⟩,⟨by rw[hadd,hlb];exact h0b⟩,⟨by rw[hlb];exact h0b⟩,?_⟩
 rw[hg,hw8,hgt];cbv;(repeat refine And.intro (fun _=>rfl) ?_);refine⟨[],[0,1,2,3,4,5,6,7,8,9,10,11,12,13,14,15],.tup [.val (.slice none 0 0),.lit .i64 0,.lit .i64 11],(kH cL cB cM bL bM gL gM b cm (.bufA 79 3 An (fun m=>[.int .u8 (Oa m),.int .u8 (Ob m),.int .u16 (Oc m)]) Ac)),rfl,rfl,rfl,rfl,rfl,?_,?_⟩
 ·exact⟨rfl,rfl,rfl,fun _=>rfl,rfl,rfl,rfl,rfl,rfl,rfl,rfl,rfl,rfl,rfl,rfl,rfl,rfl,trivial⟩
 ·exact h
theorem koN (PT:SV→List SB→List Nat→Prop) (cL cB cM bL bM gL gM b:List Int) (cm cap An Ac acap:Nat) (Oa Ob Oc:Nat→Int) (x:Int) (hx:b.getD 0 0=x) (hb:1≤b.length) (hx2:0≤x∧x<256) (hm:¬35<x) (h:PT (.tup [.slice 2 .z 3 1 1,.int .i64 1,.int .i64 0]) (kH cL cB cM bL bM gL gM b cm (.bufA 79 3 1 (fun _=>[.int .u8 x,.int .u8 0,.int .u16 0]) 1)) [2]):Con Try.prog 34 [.ptr 0 (.n 0) 7 0,.int .u8 1,.slice 1 .z 1 b.length cap,.slice 2 .z 3 An acap] (kH cL cB cM bL bM gL gM b cm (.bufA 79 3 An (fun m=>[.int .u8 (Oa m),.int .u8 (Ob m),.int .u16 (Oc m)]) Ac)) PT:=by
 refine kR (kf (kD (kg (kc kj qB ?_))))
 intro _ vc vw _ vofN vaddN _ _ _ _ vgd _ vln _ _ _ _ _ _ _ _ _ _ qc qw _ qofN qaddN _ _ _ _ qgd _ qln _ _ _ _ _ _ _ _;have hgt:vc .gtr x 35=false:=by rw[qc,gtr_false];exact hm
 clear hm;have hm:=kj;generalize Try.prog=P at *;have h10:vc .eql 1 0=false:=by rw[qc];rfl
 have h11:vc .eql 1 1=true:=by rw[qc];rfl
 obtain⟨bl,hbl⟩:∃bl,bl=b.length:=⟨_,rfl⟩;obtain⟨bi,hbi⟩:∃bi:Int,bi=bl:=⟨_,rfl⟩;have ho:vofN bl=bi:=by simp only[qofN];exact hbi.symm
 have hn0:vc .eql bi 0=false:=by rw[qc,kh];omega
 have hin:(0:Int)≤0∧(0:Int)<(bl:Int):=by omega
 have hadd:vaddN 0 0=0:=by simp only[qaddN]
 have hlb:vln b=bl:=by simp only[qln];exact hbl.symm
 have h0b:0<bl:=by omega
 have hg:vgd b 0=x:=by simp only[qgd];exact hx
 have hw8:vw .i64 x=x:=by rw[qw];exact wrap_i64 (by omega) (by omega)
 rw[←hbl];cbv;rw[h10];cbv;rw[h11];cbv;rw[ho,hn0];cbv;refine⟨⟨hin⟩,⟨by rw[hadd,hlb];exact h0b⟩,⟨by rw[hlb];exact h0b⟩,?_⟩
 rw[hg,hw8,hgt];cbv;refine⟨⟨hin⟩,⟨by rw[hadd,hlb];exact h0b⟩,⟨by rw[hlb];exact h0b⟩,?_⟩
 rw[hg];(repeat refine And.intro (fun _=>rfl) ?_);refine⟨[2],[0,1,16,3,4,5,6,7,8,9,10,11,12,13,14,15],.tup [.slice 2 .z 3 1 1,.lit .i64 1,.lit .i64 0],(kH cL cB cM bL bM gL gM b cm (.bufR 79 3 [.int .u8 x,.lit .u8 0,.lit .u16 0] 1)),rfl,rfl,rfl,rfl,rfl,?_,?_⟩
 ·exact⟨rfl,rfl,rfl,rfl,rfl,rfl,rfl,rfl,rfl,rfl,rfl,rfl,rfl,rfl,rfl,rfl,trivial⟩
 ·exact h
theorem koO (PT:SV→List SB→List Nat→Prop) (cL cB cM bL bM gL gM b:List Int) (cm cap An Ac acap:Nat) (Oa Ob Oc:Nat→Int) (e:Int) (he:e≠0)
  (hRd:Con Try.prog 70 [.slice 0 .z 1 b.length cap,.int .i64 9,.int .i64 35] [.ro .u8 b] (fun v H R=>R=[]∧v=.tup [.val (.slice none 0 0),.int .i64 0,.int .i64 0,.int .i64 e]∧H=[.ro .u8 b]))
  (h:PT (.tup [.val (.slice none 0 0),.int .i64 0,.int .i64 (if e=10 then 10 else 11)]) (kH cL cB cM bL bM gL gM b cm (.bufA 79 3 An (fun m=>[.int .u8 (Oa m),.int .u8 (Ob m),.int .u16 (Oc m)]) Ac)) []):Con Try.prog 34 [.ptr 0 (.n 0) 7 0,.int .u8 2,.slice 1 .z 1 b.length cap,.slice 2 .z 3 An acap] (kH cL cB cM bL bM gL gM b cm (.bufA 79 3 An (fun m=>[.int .u8 (Oa m),.int .u8 (Ob m),.int .u16 (Oc m)]) Ac)) PT:=by
 refine kR (kf (kD (kg (kc kj qB ?_))))
 intro _ vc _ _ _ _ _ _ _ _ _ _ _ _ _ _ _ _ _ _ _ _ _ qc _ _ _ _ _ _ _ _ _ _ _ _ _ _ _ _ _ _ _;have hm:=kj;generalize Try.prog=P at *;have he0:vc .eql e 0=false:=by rw[qc,kh];exact he
 have he1:vc .neq e 0=true:=by rw[qc,kz];exact he
 generalize b.length=bl at *;have h20:vc .eql 2 0=false:=by rw[qc];rfl
 have h21:vc .eql 2 1=false:=by rw[qc];rfl
 have h22:vc .eql 2 2=true:=by rw[qc];rfl
 cbv;rw[h20];cbv;rw[h21];cbv;rw[h22];cbv;refine ka (ρ:=[(1,.z)]) hRd ⟨by rfl,by rfl,by rfl,by cbv;refine⟨fun _=>rfl,?_⟩;exact⟨kb _,trivial⟩⟩ ?_
 rintro v H R js ⟨rfl,rfl,rfl⟩;cbv;(repeat refine And.intro (fun _=>rfl) ?_);cbv;rw[he0];cbv;rw[he1];cbv;by_cases h10:e=10
 ·have he2:vc .neq e 10=false:=by rw[qc,kQ];omega
  rw[if_pos h10] at h;subst h10;rw[he2];cbv;(repeat refine And.intro (fun _=>rfl) ?_);refine⟨[],[0,1,2,3,4,5,6,7,8,9,10,11,12,13,14,15],.tup [.val (.slice none 0 0),.int .i64 0,.int .i64 10],(kH cL cB cM bL bM gL gM b cm (.bufA 79 3 An (fun m=>[.int .u8 (Oa m),.int .u8 (Ob m),.int .u16 (Oc m)]) Ac)),rfl,rfl,rfl,rfl,rfl,?_,?_⟩
  ·exact⟨rfl,rfl,rfl,fun _=>rfl,rfl,rfl,rfl,rfl,rfl,rfl,rfl,rfl,rfl,rfl,rfl,rfl,rfl,trivial⟩
  ·exact h
 ·have he2:vc .neq e 10=true:=by rw[qc,kz];exact h10
  rw[if_neg h10] at h;rw[he2];cbv;(repeat refine And.intro (fun _=>rfl) ?_);refine⟨[],[0,1,2,3,4,5,6,7,8,9,10,11,12,13,14,15],.tup [.val (.slice none 0 0),.int .i64 0,.lit .i64 11],(kH cL cB cM bL bM gL gM b cm (.bufA 79 3 An (fun m=>[.int .u8 (Oa m),.int .u8 (Ob m),.int .u16 (Oc m)]) Ac)),rfl,rfl,rfl,rfl,rfl,?_,?_⟩
  ·exact⟨rfl,rfl,rfl,fun _=>rfl,rfl,rfl,rfl,rfl,rfl,rfl,rfl,rfl,rfl,rfl,rfl,rfl,rfl,trivial⟩
  ·exact h
theorem koP (PT:SV→List SB→List Nat→Prop) (cL cB cM bL bM gL gM b:List Int) (cm cap An Ac acap:Nat) (Oa Ob Oc:Nat→Int) (cs:List Int) (log used:Int)
  (hRd:Con Try.prog 70 [.slice 0 .z 1 b.length cap,.int .i64 9,.int .i64 35] [.ro .u8 b] (fun v H R=>R=[]∧∃c,v=.tup [.slice 1 .z 1 cs.length c,.int .i64 log,.int .i64 used,.int .i64 0]∧H=[.ro .u8 b,.buf 124 .i16 cs c]))
  (hT:∀c,Con Try.prog 66 [.slice 0 .z 1 cs.length c,.int .i64 log] [.ro .i16 cs] (fun v H R=>R=[]∧v=.tup [.val (.slice none 0 0),.int .i64 70]∧H=[.ro .i16 cs]))
  (h:∀u,PT (.tup [.val (.slice none 0 0),.int .i64 u,.int .i64 11]) (kH cL cB cM bL bM gL gM b cm (.bufA 79 3 An (fun m=>[.int .u8 (Oa m),.int .u8 (Ob m),.int .u16 (Oc m)]) Ac)) []):Con Try.prog 34 [.ptr 0 (.n 0) 7 0,.int .u8 2,.slice 1 .z 1 b.length cap,.slice 2 .z 3 An acap] (kH cL cB cM bL bM gL gM b cm (.bufA 79 3 An (fun m=>[.int .u8 (Oa m),.int .u8 (Ob m),.int .u16 (Oc m)]) Ac)) PT:=by
 refine kR (kf (kD (kg (kc kj qB ?_))))
 intro _ vc _ _ _ _ _ _ _ _ _ _ _ _ _ _ _ _ _ _ _ _ _ qc _ _ _ _ _ _ _ _ _ _ _ _ _ _ _ _ _ _ _;have hm:=kj;generalize Try.prog=P at *;have h00:vc .eql 0 0=true:=by rw[qc];rfl
 have h70:vc .neq 70 0=true:=by rw[qc];rfl
 have h71:vc .neq 70 10=true:=by rw[qc];rfl
 generalize b.length=bl at *;generalize cs.length=cl at *;have h20:vc .eql 2 0=false:=by rw[qc];rfl
 have h21:vc .eql 2 1=false:=by rw[qc];rfl
 have h22:vc .eql 2 2=true:=by rw[qc];rfl
 cbv;rw[h20];cbv;rw[h21];cbv;rw[h22];cbv;refine ka (ρ:=[(1,.z)]) hRd ⟨by rfl,by rfl,by rfl,by cbv;refine⟨fun _=>rfl,?_⟩;exact⟨kb _,trivial⟩⟩ ?_
 rintro v H R js ⟨rfl,c,rfl,rfl⟩;cbv;(repeat refine And.intro (fun _=>rfl) ?_);cbv;rw[h00];cbv;refine ka (ρ:=[(16,.z)]) (hT c) ⟨by rfl,by rfl,by rfl,by cbv;refine⟨fun _=>rfl,?_⟩;exact⟨kb _,trivial⟩⟩ ?_
 rintro v H R js ⟨rfl,rfl,rfl⟩;cbv;(repeat refine And.intro (fun _=>rfl) ?_);cbv;rw[h70];cbv;rw[h71];cbv;(repeat refine And.intro (fun _=>rfl) ?_);refine⟨[],[0,1,2,3,4,5,6,7,8,9,10,11,12,13,14,15],.tup [.val (.slice none 0 0),.int .i64 used,.lit .i64 11],(kH cL cB cM bL bM gL gM b cm (.bufA 79 3 An (fun m=>[.int .u8 (Oa m),.int .u8 (Ob m),.int .u16 (Oc m)]) Ac)),rfl,rfl,rfl,rfl,rfl,?_,?_⟩
 ·exact⟨rfl,rfl,rfl,fun _=>rfl,rfl,rfl,rfl,rfl,rfl,rfl,rfl,rfl,rfl,rfl,rfl,rfl,rfl,trivial⟩
 ·exact h used
theorem koQ (PT:SV→List SB→List Nat→Prop) (cL cB cM bL bM gL gM b:List Int) (cm cap An Ac acap:Nat) (Oa Ob Oc:Nat→Int) (cs:List Int) (log used:Int) (N:Nat) (A B C:Nat→Int)
  (hRd:Con Try.prog 70 [.slice 0 .z 1 b.length cap,.int .i64 9,.int .i64 35] [.ro .u8 b] (fun v H R=>R=[]∧∃c,v=.tup [.slice 1 .z 1 cs.length c,.int .i64 log,.int .i64 used,.int .i64 0]∧H=[.ro .u8 b,.buf 124 .i16 cs c]))
  (hT:∀c,Con Try.prog 66 [.slice 0 .z 1 cs.length c,.int .i64 log] [.ro .i16 cs] (fun v H R=>R=[]∧v=.tup [.slice 1 .z 3 N N,.int .i64 0]∧H=[.ro .i16 cs,.arr 79 3 N (fun m=>[.int .u8 (A m),.int .u8 (B m),.int .u16 (C m)])]))
  (h:PT (.tup [.slice 2 .z 3 N N,.int .i64 used,.int .i64 0]) (kH cL cB cM bL bM gL gM b cm (.bufA 79 3 N (fun m=>[.int .u8 (A m),.int .u8 (B m),.int .u16 (C m)]) N)) [2]):Con Try.prog 34 [.ptr 0 (.n 0) 7 0,.int .u8 2,.slice 1 .z 1 b.length cap,.slice 2 .z 3 An acap] (kH cL cB cM bL bM gL gM b cm (.bufA 79 3 An (fun m=>[.int .u8 (Oa m),.int .u8 (Ob m),.int .u16 (Oc m)]) Ac)) PT:=by
 refine kR (kf (kD (kg (kc kj qB ?_))))
 intro _ vc _ _ _ _ _ _ _ _ _ _ _ _ _ _ _ _ _ _ _ _ _ qc _ _ _ _ _ _ _ _ _ _ _ _ _ _ _ _ _ _ _;have hm:=kj;generalize Try.prog=P at *;have h00:vc .eql 0 0=true:=by rw[qc];rfl
 have h01:vc .neq 0 0=false:=by rw[qc];rfl
 generalize b.length=bl at *;generalize cs.length=cl at *;have h20:vc .eql 2 0=false:=by rw[qc];rfl
 have h21:vc .eql 2 1=false:=by rw[qc];rfl
 have h22:vc .eql 2 2=true:=by rw[qc];rfl
 cbv;rw[h20];cbv;rw[h21];cbv;rw[h22];cbv;refine ka (ρ:=[(1,.z)]) hRd ⟨by rfl,by rfl,by rfl,by cbv;refine⟨fun _=>rfl,?_⟩;exact⟨kb _,trivial⟩⟩ ?_
 rintro v H R js ⟨rfl,c,rfl,rfl⟩;cbv;(repeat refine And.intro (fun _=>rfl) ?_);cbv;rw[h00];cbv;refine ka (ρ:=[(16,.z)]) (hT c) ⟨by rfl,by rfl,by rfl,by cbv;refine⟨fun _=>rfl,?_⟩;exact⟨kb _,trivial⟩⟩ ?_
 rintro v H R js ⟨rfl,rfl,rfl⟩;cbv;(repeat refine And.intro (fun _=>rfl) ?_);cbv;rw[h01];cbv;(repeat refine And.intro (fun _=>rfl) ?_);refine⟨[2],[0,1,17,3,4,5,6,7,8,9,10,11,12,13,14,15],.tup [.slice 2 .z 3 N N,.int .i64 used,.int .i64 0],(kH cL cB cM bL bM gL gM b cm (.arr 79 3 N (fun m=>[.int .u8 (A m),.int .u8 (B m),.int .u16 (C m)]))),rfl,rfl,rfl,rfl,rfl,?_,?_⟩
 ·exact⟨rfl,rfl,rfl,fun _=>rfl,rfl,rfl,rfl,rfl,rfl,rfl,rfl,rfl,rfl,rfl,rfl,rfl,rfl,trivial⟩
 ·exact h
theorem koR (PT:SV→List SB→List Nat→Prop) (cL cB cM bL bM gL gM b:List Int) (cm cap An Ac acap:Nat) (Oa Ob Oc:Nat→Int) (hA:An=0) (h:PT (.tup [.val (.slice none 0 0),.int .i64 0,.int .i64 11]) (kH cL cB cM bL bM gL gM b cm (.bufA 79 3 An (fun m=>[.int .u8 (Oa m),.int .u8 (Ob m),.int .u16 (Oc m)]) Ac)) []):Con Try.prog 34 [.ptr 0 (.n 0) 7 0,.int .u8 3,.slice 1 .z 1 b.length cap,.slice 2 .z 3 An acap] (kH cL cB cM bL bM gL gM b cm (.bufA 79 3 An (fun m=>[.int .u8 (Oa m),.int .u8 (Ob m),.int .u16 (Oc m)]) Ac)) PT:=by
 refine kR (kf (kD (kg (kc kj qB ?_))))
 intro _ vc _ _ vofN _ _ _ _ _ _ _ _ _ _ _ _ _ _ _ _ _ _ qc _ _ qofN _ _ _ _ _ _ _ _ _ _ _ _ _ _ _ _;have hm:=kj;generalize Try.prog=P at *;have ho:vofN An=0:=by simp only[qofN];rw[hA];rfl
 have h00:vc .eql 0 0=true:=by rw[qc];rfl
 have h30:vc .eql 3 0=false:=by rw[qc];rfl
 have h31:vc .eql 3 1=false:=by rw[qc];rfl
 have h32:vc .eql 3 2=false:=by rw[qc];rfl
 generalize b.length=bl at *;cbv;rw[h30];cbv;rw[h31];cbv;rw[h32];cbv;rw[ho,h00];cbv;(repeat refine And.intro (fun _=>rfl) ?_);refine⟨[],[0,1,2,3,4,5,6,7,8,9,10,11,12,13,14,15],.tup [.val (.slice none 0 0),.lit .i64 0,.lit .i64 11],(kH cL cB cM bL bM gL gM b cm (.bufA 79 3 An (fun m=>[.int .u8 (Oa m),.int .u8 (Ob m),.int .u16 (Oc m)]) Ac)),rfl,rfl,rfl,rfl,rfl,?_,?_⟩
 ·exact⟨rfl,rfl,rfl,fun _=>rfl,rfl,rfl,rfl,rfl,rfl,rfl,rfl,rfl,rfl,rfl,rfl,rfl,rfl,trivial⟩
 ·exact h
theorem koS (PT:SV→List SB→List Nat→Prop) (cL cB cM bL bM gL gM b:List Int) (cm cap An Ac acap:Nat) (Oa Ob Oc:Nat→Int) (hA:¬An=0) (h:PT (.tup [.slice 2 .z 3 An acap,.int .i64 0,.int .i64 0]) (kH cL cB cM bL bM gL gM b cm (.bufA 79 3 An (fun m=>[.int .u8 (Oa m),.int .u8 (Ob m),.int .u16 (Oc m)]) Ac)) [2]):Con Try.prog 34 [.ptr 0 (.n 0) 7 0,.int .u8 3,.slice 1 .z 1 b.length cap,.slice 2 .z 3 An acap] (kH cL cB cM bL bM gL gM b cm (.bufA 79 3 An (fun m=>[.int .u8 (Oa m),.int .u8 (Ob m),.int .u16 (Oc m)]) Ac)) PT:=by
 refine kR (kf (kD (kg (kc kj qB ?_))))
 intro _ vc _ _ vofN _ _ _ _ _ _ _ _ _ _ _ _ _ _ _ _ _ _ qc _ _ qofN _ _ _ _ _ _ _ _ _ _ _ _ _ _ _ _;have hm:=kj;generalize Try.prog=P at *;obtain⟨ni,hni⟩:∃ni:Int,ni=An:=⟨_,rfl⟩;have ho:vofN An=ni:=by simp only[qofN];exact hni.symm
 have h00:vc .eql ni 0=false:=by rw[qc,kh];omega
 have h30:vc .eql 3 0=false:=by rw[qc];rfl
 have h31:vc .eql 3 1=false:=by rw[qc];rfl
 have h32:vc .eql 3 2=false:=by rw[qc];rfl
 generalize b.length=bl at *;cbv;rw[h30];cbv;rw[h31];cbv;rw[h32];cbv;rw[ho,h00];cbv;(repeat refine And.intro (fun _=>rfl) ?_);refine⟨[2],[0,1,2,3,4,5,6,7,8,9,10,11,12,13,14,15],.tup [.slice 2 .z 3 An acap,.lit .i64 0,.lit .i64 0],(kH cL cB cM bL bM gL gM b cm (.bufA 79 3 An (fun m=>[.int .u8 (Oa m),.int .u8 (Ob m),.int .u16 (Oc m)]) Ac)),rfl,rfl,rfl,rfl,rfl,?_,?_⟩
 ·exact⟨rfl,rfl,rfl,fun _=>rfl,rfl,rfl,rfl,rfl,rfl,rfl,rfl,rfl,rfl,rfl,rfl,rfl,rfl,trivial⟩
 ·exact h
theorem kqz (PT:SV→List SB→List Nat→Prop) (cL cB cM bL bM gL gM b:List Int) (cm cap An Ac acap:Nat) (Oa Ob Oc:Nat→Int) (N:Nat) (A B C:Nat→Int) (hlen:cB.length=29)
  (hT:Con Try.prog 66 [.slice 0 .z 1 cB.length 29,.int .i64 5] [.ro .i16 cB] (fun v H R=>R=[]∧v=.tup [.slice 1 .z 3 N N,.int .i64 0]∧H=[.ro .i16 cB,.arr 79 3 N (fun m=>[.int .u8 (A m),.int .u8 (B m),.int .u16 (C m)])]))
  (h:PT (.tup [.slice 2 .z 3 N N,.int .i64 0,.int .i64 0]) (kH cL cB cM bL bM gL gM b cm (.bufA 79 3 N (fun m=>[.int .u8 (A m),.int .u8 (B m),.int .u16 (C m)]) N)) [2]):Con Try.prog 34 [.ptr 0 (.n 1) 7 0,.int .u8 0,.slice 1 .z 1 b.length cap,.slice 2 .z 3 An acap] (kH cL cB cM bL bM gL gM b cm (.bufA 79 3 An (fun m=>[.int .u8 (Oa m),.int .u8 (Ob m),.int .u16 (Oc m)]) Ac)) PT:=by
 rw[hlen] at hT;refine kR (kf (kD (kg (kc kj qB ?_))))
 intro _ vc _ _ _ _ _ _ _ _ _ _ _ _ _ _ _ _ _ _ _ _ _ qc _ _ _ _ _ _ _ _ _ _ _ _ _ _ _ _ _ _ _;have hm:=kj;generalize Try.prog=P at *;have h00:vc .eql 0 0=true:=by rw[qc];rfl
 generalize b.length=bl at *;cbv;rw[h00];cbv;refine ka (ρ:=[(4,.z)]) hT ⟨by rfl,by rfl,by rfl,by cbv;refine⟨fun _=>rfl,?_⟩;exact⟨kb _,trivial⟩⟩ ?_
 rintro v H R js ⟨rfl,rfl,rfl⟩;cbv;(repeat refine And.intro (fun _=>rfl) ?_);cbv;refine⟨[2],[0,1,16,3,4,5,6,7,8,9,10,11,12,13,14,15],.tup [.slice 2 .z 3 N N,.lit .i64 0,.int .i64 0],(kH cL cB cM bL bM gL gM b cm (.arr 79 3 N (fun m=>[.int .u8 (A m),.int .u8 (B m),.int .u16 (C m)]))),rfl,rfl,rfl,rfl,rfl,?_,?_⟩
 ·exact⟨rfl,rfl,rfl,fun _=>rfl,rfl,rfl,rfl,rfl,rfl,rfl,rfl,rfl,rfl,rfl,rfl,rfl,rfl,trivial⟩
 ·exact h
theorem koT (PT:SV→List SB→List Nat→Prop) (cL cB cM bL bM gL gM b:List Int) (cm cap An Ac acap:Nat) (Oa Ob Oc:Nat→Int) (hb:b.length=0) (h:PT (.tup [.val (.slice none 0 0),.int .i64 0,.int .i64 10]) (kH cL cB cM bL bM gL gM b cm (.bufA 79 3 An (fun m=>[.int .u8 (Oa m),.int .u8 (Ob m),.int .u16 (Oc m)]) Ac)) []):Con Try.prog 34 [.ptr 0 (.n 1) 7 0,.int .u8 1,.slice 1 .z 1 b.length cap,.slice 2 .z 3 An acap] (kH cL cB cM bL bM gL gM b cm (.bufA 79 3 An (fun m=>[.int .u8 (Oa m),.int .u8 (Ob m),.int .u16 (Oc m)]) Ac)) PT:=by
 refine kR (kf (kD (kg (kc kj qB ?_))))
 intro _ vc _ _ vofN _ _ _ _ _ _ _ _ _ _ _ _ _ _ _ _ _ _ qc _ _ qofN _ _ _ _ _ _ _ _ _ _ _ _ _ _ _ _;have hm:=kj;generalize Try.prog=P at *;have h10:vc .eql 1 0=false:=by rw[qc];rfl
 have h11:vc .eql 1 1=true:=by rw[qc];rfl
 have h00:vc .eql 0 0=true:=by rw[qc];rfl
 have ho:vofN 0=0:=by simp only[qofN];rfl
 rw[hb] at *
 cbv;rw[h10];cbv;rw[h11];cbv;rw[ho,h00];cbv;(repeat refine And.intro (fun _=>rfl) ?_);refine⟨[],[0,1,2,3,4,5,6,7,8,9,10,11,12,13,14,15],.tup [.val (.slice none 0 0),.lit .i64 0,.lit .i64 10],(kH cL cB cM bL bM gL gM b cm (.bufA 79 3 An (fun m=>[.int .u8 (Oa m),.int .u8 (Ob m),.int .u16 (Oc m)]) Ac)),rfl,rfl,rfl,rfl,rfl,?_,?_⟩
 ·exact⟨rfl,rfl,rfl,fun _=>rfl,rfl,rfl,rfl,rfl,rfl,rfl,rfl,rfl,rfl,rfl,rfl,rfl,rfl,trivial⟩
 ·exact h
theorem koU (PT:SV→List SB→List Nat→Prop) (cL cB cM bL bM gL gM b:List Int) (cm cap An Ac acap:Nat) (Oa Ob Oc:Nat→Int) (x:Int) (hx:b.getD 0 0=x) (hb:1≤b.length) (hx2:0≤x∧x<256) (hm:31<x) (h:PT (.tup [.val (.slice none 0 0),.int .i64 0,.int .i64 11]) (kH cL cB cM bL bM gL gM b cm (.bufA 79 3 An (fun m=>[.int .u8 (Oa m),.int .u8 (Ob m),.int .u16 (Oc m)]) Ac)) []):Con Try.prog 34 [.ptr 0 (.n 1) 7 0,.int .u8 1,.slice 1 .z 1 b.length cap,.slice 2 .z 3 An acap] (kH cL cB cM bL bM gL gM b cm (.bufA 79 3 An (fun m=>[.int .u8 (Oa m),.int .u8 (Ob m),.int .u16 (Oc m)]) Ac)) PT:=by
 refine kR (kf (kD (kg (kc kj qB ?_))))
 intro _ vc vw _ vofN vaddN _ _ _ _ vgd _ vln _ _ _ _ _ _ _ _ _ _ qc qw _ qofN qaddN _ _ _ _ qgd _ qln _ _ _ _ _ _ _ _;have hgt:vc .gtr x 31=true:=by rw[qc,gtr_true];exact hm
 clear hm;have hm:=kj;generalize Try.prog=P at *;have h10:vc .eql 1 0=false:=by rw[qc];rfl
 have h11:vc .eql 1 1=true:=by rw[qc];rfl
 obtain⟨bl,hbl⟩:∃bl,bl=b.length:=⟨_,rfl⟩;obtain⟨bi,hbi⟩:∃bi:Int,bi=bl:=⟨_,rfl⟩;have ho:vofN bl=bi:=by simp only[qofN];exact hbi.symm
 have hn0:vc .eql bi 0=false:=by rw[qc,kh];omega
 have hin:(0:Int)≤0∧(0:Int)<(bl:Int):=by omega
 have hadd:vaddN 0 0=0:=by simp only[qaddN]
 have hlb:vln b=bl:=by simp only[qln];exact hbl.symm
 have h0b:0<bl:=by omega
 have hg:vgd b 0=x:=by simp only[qgd];exact hx
 have hw8:vw .i64 x=x:=by rw[qw];exact wrap_i64 (by omega) (by omega)
 rw[←hbl];cbv;rw[h10];cbv;rw[h11];cbv;rw[ho,hn0];cbv;refine⟨⟨hin⟩,⟨by rw[hadd,hlb];exact h0b⟩,⟨by rw[hlb];exact h0b⟩,?_⟩
 rw[hg,hw8,hgt];cbv;(repeat refine And.intro (fun _=>rfl) ?_);refine⟨[],[0,1,2,3,4,5,6,7,8,9,10,11,12,13,14,15],.tup [.val (.slice none 0 0),.lit .i64 0,.lit .i64 11],(kH cL cB cM bL bM gL gM b cm (.bufA 79 3 An (fun m=>[.int .u8 (Oa m),.int .u8 (Ob m),.int .u16 (Oc m)]) Ac)),rfl,rfl,rfl,rfl,rfl,?_,?_⟩
 ·exact⟨rfl,rfl,rfl,fun _=>rfl,rfl,rfl,rfl,rfl,rfl,rfl,rfl,rfl,rfl,rfl,rfl,rfl,rfl,trivial⟩
 ·exact h
theorem koV (PT:SV→List SB→List Nat→Prop) (cL cB cM bL bM gL gM b:List Int) (cm cap An Ac acap:Nat) (Oa Ob Oc:Nat→Int) (x:Int) (hx:b.getD 0 0=x) (hb:1≤b.length) (hx2:0≤x∧x<256) (hm:¬31<x) (h:PT (.tup [.slice 2 .z 3 1 1,.int .i64 1,.int .i64 0]) (kH cL cB cM bL bM gL gM b cm (.bufA 79 3 1 (fun _=>[.int .u8 x,.int .u8 0,.int .u16 0]) 1)) [2]):Con Try.prog 34 [.ptr 0 (.n 1) 7 0,.int .u8 1,.slice 1 .z 1 b.length cap,.slice 2 .z 3 An acap] (kH cL cB cM bL bM gL gM b cm (.bufA 79 3 An (fun m=>[.int .u8 (Oa m),.int .u8 (Ob m),.int .u16 (Oc m)]) Ac)) PT:=by
 refine kR (kf (kD (kg (kc kj qB ?_))))
 intro _ vc vw _ vofN vaddN _ _ _ _ vgd _ vln _ _ _ _ _ _ _ _ _ _ qc qw _ qofN qaddN _ _ _ _ qgd _ qln _ _ _ _ _ _ _ _;have hgt:vc .gtr x 31=false:=by rw[qc,gtr_false];exact hm
 clear hm;have hm:=kj;generalize Try.prog=P at *;have h10:vc .eql 1 0=false:=by rw[qc];rfl
 have h11:vc .eql 1 1=true:=by rw[qc];rfl
 obtain⟨bl,hbl⟩:∃bl,bl=b.length:=⟨_,rfl⟩;obtain⟨bi,hbi⟩:∃bi:Int,bi=bl:=⟨_,rfl⟩;have ho:vofN bl=bi:=by simp only[qofN];exact hbi.symm
 have hn0:vc .eql bi 0=false:=by rw[qc,kh];omega
 have hin:(0:Int)≤0∧(0:Int)<(bl:Int):=by omega
 have hadd:vaddN 0 0=0:=by simp only[qaddN]
 have hlb:vln b=bl:=by simp only[qln];exact hbl.symm
 have h0b:0<bl:=by omega
 have hg:vgd b 0=x:=by simp only[qgd];exact hx
 have hw8:vw .i64 x=x:=by rw[qw];exact wrap_i64 (by omega) (by omega)
 rw[←hbl];cbv;rw[h10];cbv;rw[h11];cbv;rw[ho,hn0];cbv;refine⟨⟨hin⟩,⟨by rw[hadd,hlb];exact h0b⟩,⟨by rw[hlb];exact h0b⟩,?_⟩
 rw[hg,hw8,hgt];cbv;refine⟨⟨hin⟩,⟨by rw[hadd,hlb];exact h0b⟩,⟨by rw[hlb];exact h0b⟩,?_⟩
 rw[hg];(repeat refine And.intro (fun _=>rfl) ?_);refine⟨[2],[0,1,16,3,4,5,6,7,8,9,10,11,12,13,14,15],.tup [.slice 2 .z 3 1 1,.lit .i64 1,.lit .i64 0],(kH cL cB cM bL bM gL gM b cm (.bufR 79 3 [.int .u8 x,.lit .u8 0,.lit .u16 0] 1)),rfl,rfl,rfl,rfl,rfl,?_,?_⟩
 ·exact⟨rfl,rfl,rfl,rfl,rfl,rfl,rfl,rfl,rfl,rfl,rfl,rfl,rfl,rfl,rfl,rfl,trivial⟩
 ·exact h
theorem koW (PT:SV→List SB→List Nat→Prop) (cL cB cM bL bM gL gM b:List Int) (cm cap An Ac acap:Nat) (Oa Ob Oc:Nat→Int) (e:Int) (he:e≠0)
  (hRd:Con Try.prog 70 [.slice 0 .z 1 b.length cap,.int .i64 8,.int .i64 31] [.ro .u8 b] (fun v H R=>R=[]∧v=.tup [.val (.slice none 0 0),.int .i64 0,.int .i64 0,.int .i64 e]∧H=[.ro .u8 b]))
  (h:PT (.tup [.val (.slice none 0 0),.int .i64 0,.int .i64 (if e=10 then 10 else 11)]) (kH cL cB cM bL bM gL gM b cm (.bufA 79 3 An (fun m=>[.int .u8 (Oa m),.int .u8 (Ob m),.int .u16 (Oc m)]) Ac)) []):Con Try.prog 34 [.ptr 0 (.n 1) 7 0,.int .u8 2,.slice 1 .z 1 b.length cap,.slice 2 .z 3 An acap] (kH cL cB cM bL bM gL gM b cm (.bufA 79 3 An (fun m=>[.int .u8 (Oa m),.int .u8 (Ob m),.int .u16 (Oc m)]) Ac)) PT:=by
 refine kR (kf (kD (kg (kc kj qB ?_))))
 intro _ vc _ _ _ _ _ _ _ _ _ _ _ _ _ _ _ _ _ _ _ _ _ qc _ _ _ _ _ _ _ _ _ _ _ _ _ _ _ _ _ _ _;have hm:=kj;generalize Try.prog=P at *;have he0:vc .eql e 0=false:=by rw[qc,kh];exact he
 have he1:vc .neq e 0=true:=by rw[qc,kz];exact he
 generalize b.length=bl at *;have h20:vc .eql 2 0=false:=by rw[qc];rfl
 have h21:vc .eql 2 1=false:=by rw[qc];rfl
 have h22:vc .eql 2 2=true:=by rw[qc];rfl
 cbv;rw[h20];cbv;rw[h21];cbv;rw[h22];cbv;refine ka (ρ:=[(1,.z)]) hRd ⟨by rfl,by rfl,by rfl,by cbv;refine⟨fun _=>rfl,?_⟩;exact⟨kb _,trivial⟩⟩ ?_
 rintro v H R js ⟨rfl,rfl,rfl⟩;cbv;(repeat refine And.intro (fun _=>rfl) ?_);cbv;rw[he0];cbv;rw[he1];cbv;by_cases h10:e=10
 ·have he2:vc .neq e 10=false:=by rw[qc,kQ];omega
  rw[if_pos h10] at h;subst h10;rw[he2];cbv;(repeat refine And.intro (fun _=>rfl) ?_);refine⟨[],[0,1,2,3,4,5,6,7,8,9,10,11,12,13,14,15],.tup [.val (.slice none 0 0),.int .i64 0,.int .i64 10],(kH cL cB cM bL bM gL gM b cm (.bufA 79 3 An (fun m=>[.int .u8 (Oa m),.int .u8 (Ob m),.int .u16 (Oc m)]) Ac)),rfl,rfl,rfl,rfl,rfl,?_,?_⟩
  ·exact⟨rfl,rfl,rfl,fun _=>rfl,rfl,rfl,rfl,rfl,rfl,rfl,rfl,rfl,rfl,rfl,rfl,rfl,rfl,trivial⟩
  ·exact h
 ·have he2:vc .neq e 10=true:=by rw[qc,kz];exact h10
  rw[if_neg h10] at h;rw[he2];cbv;(repeat refine And.intro (fun _=>rfl) ?_);refine⟨[],[0,1,2,3,4,5,6,7,8,9,10,11,12,13,14,15],.tup [.val (.slice none 0 0),.int .i64 0,.lit .i64 11],(kH cL cB cM bL bM gL gM b cm (.bufA 79 3 An (fun m=>[.int .u8 (Oa m),.int .u8 (Ob m),.int .u16 (Oc m)]) Ac)),rfl,rfl,rfl,rfl,rfl,?_,?_⟩
  ·exact⟨rfl,rfl,rfl,fun _=>rfl,rfl,rfl,rfl,rfl,rfl,rfl,rfl,rfl,rfl,rfl,rfl,rfl,rfl,trivial⟩
  ·exact h
theorem koX (PT:SV→List SB→List Nat→Prop) (cL cB cM bL bM gL gM b:List Int) (cm cap An Ac acap:Nat) (Oa Ob Oc:Nat→Int) (cs:List Int) (log used:Int)
  (hRd:Con Try.prog 70 [.slice 0 .z 1 b.length cap,.int .i64 8,.int .i64 31] [.ro .u8 b] (fun v H R=>R=[]∧∃c,v=.tup [.slice 1 .z 1 cs.length c,.int .i64 log,.int .i64 used,.int .i64 0]∧H=[.ro .u8 b,.buf 124 .i16 cs c]))
  (hT:∀c,Con Try.prog 66 [.slice 0 .z 1 cs.length c,.int .i64 log] [.ro .i16 cs] (fun v H R=>R=[]∧v=.tup [.val (.slice none 0 0),.int .i64 70]∧H=[.ro .i16 cs]))
  (h:∀u,PT (.tup [.val (.slice none 0 0),.int .i64 u,.int .i64 11]) (kH cL cB cM bL bM gL gM b cm (.bufA 79 3 An (fun m=>[.int .u8 (Oa m),.int .u8 (Ob m),.int .u16 (Oc m)]) Ac)) []):Con Try.prog 34 [.ptr 0 (.n 1) 7 0,.int .u8 2,.slice 1 .z 1 b.length cap,.slice 2 .z 3 An acap] (kH cL cB cM bL bM gL gM b cm (.bufA 79 3 An (fun m=>[.int .u8 (Oa m),.int .u8 (Ob m),.int .u16 (Oc m)]) Ac)) PT:=by
 refine kR (kf (kD (kg (kc kj qB ?_))))
 intro _ vc _ _ _ _ _ _ _ _ _ _ _ _ _ _ _ _ _ _ _ _ _ qc _ _ _ _ _ _ _ _ _ _ _ _ _ _ _ _ _ _ _;have hm:=kj;generalize Try.prog=P at *;have h00:vc .eql 0 0=true:=by rw[qc];rfl
 have h70:vc .neq 70 0=true:=by rw[qc];rfl
 have h71:vc .neq 70 10=true:=by rw[qc];rfl
 generalize b.length=bl at *;generalize cs.length=cl at *;have h20:vc .eql 2 0=false:=by rw[qc];rfl
 have h21:vc .eql 2 1=false:=by rw[qc];rfl
 have h22:vc .eql 2 2=true:=by rw[qc];rfl
 cbv;rw[h20];cbv;rw[h21];cbv;rw[h22];cbv;refine ka (ρ:=[(1,.z)]) hRd ⟨by rfl,by rfl,by rfl,by cbv;refine⟨fun _=>rfl,?_⟩;exact⟨kb _,trivial⟩⟩ ?_
 rintro v H R js ⟨rfl,c,rfl,rfl⟩;cbv;(repeat refine And.intro (fun _=>rfl) ?_);cbv;rw[h00];cbv;refine ka (ρ:=[(16,.z)]) (hT c) ⟨by rfl,by rfl,by rfl,by cbv;refine⟨fun _=>rfl,?_⟩;exact⟨kb _,trivial⟩⟩ ?_
 rintro v H R js ⟨rfl,rfl,rfl⟩;cbv;(repeat refine And.intro (fun _=>rfl) ?_);cbv;rw[h70];cbv;rw[h71];cbv;(repeat refine And.intro (fun _=>rfl) ?_);refine⟨[],[0,1,2,3,4,5,6,7,8,9,10,11,12,13,14,15],.tup [.val (.slice none 0 0),.int .i64 used,.lit .i64 11],(kH cL cB cM bL bM gL gM b cm (.bufA 79 3 An (fun m=>[.int .u8 (Oa m),.int .u8 (Ob m),.int .u16 (Oc m)]) Ac)),rfl,rfl,rfl,rfl,rfl,?_,?_⟩
 ·exact⟨rfl,rfl,rfl,fun _=>rfl,rfl,rfl,rfl,rfl,rfl,rfl,rfl,rfl,rfl,rfl,rfl,rfl,rfl,trivial⟩
 ·exact h used
theorem koY (PT:SV→List SB→List Nat→Prop) (cL cB cM bL bM gL gM b:List Int) (cm cap An Ac acap:Nat) (Oa Ob Oc:Nat→Int) (cs:List Int) (log used:Int) (N:Nat) (A B C:Nat→Int)
  (hRd:Con Try.prog 70 [.slice 0 .z 1 b.length cap,.int .i64 8,.int .i64 31] [.ro .u8 b] (fun v H R=>R=[]∧∃c,v=.tup [.slice 1 .z 1 cs.length c,.int .i64 log,.int .i64 used,.int .i64 0]∧H=[.ro .u8 b,.buf 124 .i16 cs c]))
  (hT:∀c,Con Try.prog 66 [.slice 0 .z 1 cs.length c,.int .i64 log] [.ro .i16 cs] (fun v H R=>R=[]∧v=.tup [.slice 1 .z 3 N N,.int .i64 0]∧H=[.ro .i16 cs,.arr 79 3 N (fun m=>[.int .u8 (A m),.int .u8 (B m),.int .u16 (C m)])]))
  (h:PT (.tup [.slice 2 .z 3 N N,.int .i64 used,.int .i64 0]) (kH cL cB cM bL bM gL gM b cm (.bufA 79 3 N (fun m=>[.int .u8 (A m),.int .u8 (B m),.int .u16 (C m)]) N)) [2]):Con Try.prog 34 [.ptr 0 (.n 1) 7 0,.int .u8 2,.slice 1 .z 1 b.length cap,.slice 2 .z 3 An acap] (kH cL cB cM bL bM gL gM b cm (.bufA 79 3 An (fun m=>[.int .u8 (Oa m),.int .u8 (Ob m),.int .u16 (Oc m)]) Ac)) PT:=by
 refine kR (kf (kD (kg (kc kj qB ?_))))
 intro _ vc _ _ _ _ _ _ _ _ _ _ _ _ _ _ _ _ _ _ _ _ _ qc _ _ _ _ _ _ _ _ _ _ _ _ _ _ _ _ _ _ _;have hm:=kj;generalize Try.prog=P at *;have h00:vc .eql 0 0=true:=by rw[qc];rfl
 have h01:vc .neq 0 0=false:=by rw[qc];rfl
 generalize b.length=bl at *;generalize cs.length=cl at *;have h20:vc .eql 2 0=false:=by rw[qc];rfl
 have h21:vc .eql 2 1=false:=by rw[qc];rfl
 have h22:vc .eql 2 2=true:=by rw[qc];rfl
 cbv;rw[h20];cbv;rw[h21];cbv;rw[h22];cbv;refine ka (ρ:=[(1,.z)]) hRd ⟨by rfl,by rfl,by rfl,by cbv;refine⟨fun _=>rfl,?_⟩;exact⟨kb _,trivial⟩⟩ ?_
 rintro v H R js ⟨rfl,c,rfl,rfl⟩;cbv;(repeat refine And.intro (fun _=>rfl) ?_);cbv;rw[h00];cbv;refine ka (ρ:=[(16,.z)]) (hT c) ⟨by rfl,by rfl,by rfl,by cbv;refine⟨fun _=>rfl,?_⟩;exact⟨kb _,trivial⟩⟩ ?_
 rintro v H R js ⟨rfl,rfl,rfl⟩;cbv;(repeat refine And.intro (fun _=>rfl) ?_);cbv;rw[h01];cbv;(repeat refine And.intro (fun _=>rfl) ?_);refine⟨[2],[0,1,17,3,4,5,6,7,8,9,10,11,12,13,14,15],.tup [.slice 2 .z 3 N N,.int .i64 used,.int .i64 0],(kH cL cB cM bL bM gL gM b cm (.arr 79 3 N (fun m=>[.int .u8 (A m),.int .u8 (B m),.int .u16 (C m)]))),rfl,rfl,rfl,rfl,rfl,?_,?_⟩
 ·exact⟨rfl,rfl,rfl,fun _=>rfl,rfl,rfl,rfl,rfl,rfl,rfl,rfl,rfl,rfl,rfl,rfl,rfl,rfl,trivial⟩
 ·exact h
theorem koZ (PT:SV→List SB→List Nat→Prop) (cL cB cM bL bM gL gM b:List Int) (cm cap An Ac acap:Nat) (Oa Ob Oc:Nat→Int) (hA:An=0) (h:PT (.tup [.val (.slice none 0 0),.int .i64 0,.int .i64 11]) (kH cL cB cM bL bM gL gM b cm (.bufA 79 3 An (fun m=>[.int .u8 (Oa m),.int .u8 (Ob m),.int .u16 (Oc m)]) Ac)) []):Con Try.prog 34 [.ptr 0 (.n 1) 7 0,.int .u8 3,.slice 1 .z 1 b.length cap,.slice 2 .z 3 An acap] (kH cL cB cM bL bM gL gM b cm (.bufA 79 3 An (fun m=>[.int .u8 (Oa m),.int .u8 (Ob m),.int .u16 (Oc m)]) Ac)) PT:=by
 refine kR (kf (kD (kg (kc kj qB ?_))))
 intro _ vc _ _ vofN _ _ _ _ _ _ _ _ _ _ _ _ _ _ _ _ _ _ qc _ _ qofN _ _ _ _ _ _ _ _ _ _ _ _ _ _ _ _;have hm:=kj;generalize Try.prog=P at *;have ho:vofN An=0:=by simp only[qofN];rw[hA];rfl
 have h00:vc .eql 0 0=true:=by rw[qc];rfl
 have h30:vc .eql 3 0=false:=by rw[qc];rfl
 have h31:vc .eql 3 1=false:=by rw[qc];rfl
 have h32:vc .eql 3 2=false:=by rw[qc];rfl
 generalize b.length=bl at *;cbv;rw[h30];cbv;rw[h31];cbv;rw[h32];cbv;rw[ho,h00];cbv;(repeat refine And.intro (fun _=>rfl) ?_);refine⟨[],[0,1,2,3,4,5,6,7,8,9,10,11,12,13,14,15],.tup [.val (.slice none 0 0),.lit .i64 0,.lit .i64 11],(kH cL cB cM bL bM gL gM b cm (.bufA 79 3 An (fun m=>[.int .u8 (Oa m),.int .u8 (Ob m),.int .u16 (Oc m)]) Ac)),rfl,rfl,rfl,rfl,rfl,?_,?_⟩
 ·exact⟨rfl,rfl,rfl,fun _=>rfl,rfl,rfl,rfl,rfl,rfl,rfl,rfl,rfl,rfl,rfl,rfl,rfl,rfl,trivial⟩
 ·exact h
theorem ko0 (PT:SV→List SB→List Nat→Prop) (cL cB cM bL bM gL gM b:List Int) (cm cap An Ac acap:Nat) (Oa Ob Oc:Nat→Int) (hA:¬An=0) (h:PT (.tup [.slice 2 .z 3 An acap,.int .i64 0,.int .i64 0]) (kH cL cB cM bL bM gL gM b cm (.bufA 79 3 An (fun m=>[.int .u8 (Oa m),.int .u8 (Ob m),.int .u16 (Oc m)]) Ac)) [2]):Con Try.prog 34 [.ptr 0 (.n 1) 7 0,.int .u8 3,.slice 1 .z 1 b.length cap,.slice 2 .z 3 An acap] (kH cL cB cM bL bM gL gM b cm (.bufA 79 3 An (fun m=>[.int .u8 (Oa m),.int .u8 (Ob m),.int .u16 (Oc m)]) Ac)) PT:=by
 refine kR (kf (kD (kg (kc kj qB ?_))))
 intro _ vc _ _ vofN _ _ _ _ _ _ _ _ _ _ _ _ _ _ _ _ _ _ qc _ _ qofN _ _ _ _ _ _ _ _ _ _ _ _ _ _ _ _;have hm:=kj;generalize Try.prog=P at *;obtain⟨ni,hni⟩:∃ni:Int,ni=An:=⟨_,rfl⟩;have ho:vofN An=ni:=by simp only[qofN];exact hni.symm
 have h00:vc .eql ni 0=false:=by rw[qc,kh];omega
 have h30:vc .eql 3 0=false:=by rw[qc];rfl
 have h31:vc .eql 3 1=false:=by rw[qc];rfl
 have h32:vc .eql 3 2=false:=by rw[qc];rfl
 generalize b.length=bl at *;cbv;rw[h30];cbv;rw[h31];cbv;rw[h32];cbv;rw[ho,h00];cbv;(repeat refine And.intro (fun _=>rfl) ?_);refine⟨[2],[0,1,2,3,4,5,6,7,8,9,10,11,12,13,14,15],.tup [.slice 2 .z 3 An acap,.lit .i64 0,.lit .i64 0],(kH cL cB cM bL bM gL gM b cm (.bufA 79 3 An (fun m=>[.int .u8 (Oa m),.int .u8 (Ob m),.int .u16 (Oc m)]) Ac)),rfl,rfl,rfl,rfl,rfl,?_,?_⟩
 ·exact⟨rfl,rfl,rfl,fun _=>rfl,rfl,rfl,rfl,rfl,rfl,rfl,rfl,rfl,rfl,rfl,rfl,rfl,rfl,trivial⟩
 ·exact h
theorem kqA (PT:SV→List SB→List Nat→Prop) (cL cB cM bL bM gL gM b:List Int) (cm cap An Ac acap:Nat) (Oa Ob Oc:Nat→Int) (N:Nat) (A B C:Nat→Int) (hlen:cM.length=53)
  (hT:Con Try.prog 66 [.slice 0 .z 1 cM.length cm,.int .i64 6] [.ro .i16 cM] (fun v H R=>R=[]∧v=.tup [.slice 1 .z 3 N N,.int .i64 0]∧H=[.ro .i16 cM,.arr 79 3 N (fun m=>[.int .u8 (A m),.int .u8 (B m),.int .u16 (C m)])]))
  (h:PT (.tup [.slice 2 .z 3 N N,.int .i64 0,.int .i64 0]) (kH cL cB cM bL bM gL gM b cm (.bufA 79 3 N (fun m=>[.int .u8 (A m),.int .u8 (B m),.int .u16 (C m)]) N)) [2]):Con Try.prog 34 [.ptr 0 (.n 2) 7 0,.int .u8 0,.slice 1 .z 1 b.length cap,.slice 2 .z 3 An acap] (kH cL cB cM bL bM gL gM b cm (.bufA 79 3 An (fun m=>[.int .u8 (Oa m),.int .u8 (Ob m),.int .u16 (Oc m)]) Ac)) PT:=by
 rw[hlen] at hT;refine kR (kf (kD (kg (kc kj qB ?_))))
 intro _ vc _ _ _ _ _ _ _ _ _ _ _ _ _ _ _ _ _ _ _ _ _ qc _ _ _ _ _ _ _ _ _ _ _ _ _ _ _ _ _ _ _;have hm:=kj;generalize Try.prog=P at *;have h00:vc .eql 0 0=true:=by rw[qc];rfl
 generalize b.length=bl at *;cbv;rw[h00];cbv;refine ka (ρ:=[(5,.z)]) hT ⟨by rfl,by rfl,by rfl,by cbv;refine⟨fun _=>rfl,?_⟩;exact⟨kb _,trivial⟩⟩ ?_
 rintro v H R js ⟨rfl,rfl,rfl⟩;cbv;(repeat refine And.intro (fun _=>rfl) ?_);cbv;refine⟨[2],[0,1,16,3,4,5,6,7,8,9,10,11,12,13,14,15],.tup [.slice 2 .z 3 N N,.lit .i64 0,.int .i64 0],(kH cL cB cM bL bM gL gM b cm (.arr 79 3 N (fun m=>[.int .u8 (A m),.int .u8 (B m),.int .u16 (C m)]))),rfl,rfl,rfl,rfl,rfl,?_,?_⟩
 ·exact⟨rfl,rfl,rfl,fun _=>rfl,rfl,rfl,rfl,rfl,rfl,rfl,rfl,rfl,rfl,rfl,rfl,rfl,rfl,trivial⟩
 ·exact h
theorem ko1 (PT:SV→List SB→List Nat→Prop) (cL cB cM bL bM gL gM b:List Int) (cm cap An Ac acap:Nat) (Oa Ob Oc:Nat→Int) (hb:b.length=0) (h:PT (.tup [.val (.slice none 0 0),.int .i64 0,.int .i64 10]) (kH cL cB cM bL bM gL gM b cm (.bufA 79 3 An (fun m=>[.int .u8 (Oa m),.int .u8 (Ob m),.int .u16 (Oc m)]) Ac)) []):Con Try.prog 34 [.ptr 0 (.n 2) 7 0,.int .u8 1,.slice 1 .z 1 b.length cap,.slice 2 .z 3 An acap] (kH cL cB cM bL bM gL gM b cm (.bufA 79 3 An (fun m=>[.int .u8 (Oa m),.int .u8 (Ob m),.int .u16 (Oc m)]) Ac)) PT:=by
 refine kR (kf (kD (kg (kc kj qB ?_))))
 intro _ vc _ _ vofN _ _ _ _ _ _ _ _ _ _ _ _ _ _ _ _ _ _ qc _ _ qofN _ _ _ _ _ _ _ _ _ _ _ _ _ _ _ _;have hm:=kj;generalize Try.prog=P at *;have h10:vc .eql 1 0=false:=by rw[qc];rfl
 have h11:vc .eql 1 1=true:=by rw[qc];rfl
 have h00:vc .eql 0 0=true:=by rw[qc];rfl
 have ho:vofN 0=0:=by simp only[qofN];rfl
 rw[hb] at *
 cbv;rw[h10];cbv;rw[h11];cbv;rw[ho,h00];cbv;(repeat refine And.intro (fun _=>rfl) ?_);refine⟨[],[0,1,2,3,4,5,6,7,8,9,10,11,12,13,14,15],.tup [.val (.slice none 0 0),.lit .i64 0,.lit .i64 10],(kH cL cB cM bL bM gL gM b cm (.bufA 79 3 An (fun m=>[.int .u8 (Oa m),.int .u8 (Ob m),.int .u16 (Oc m)]) Ac)),rfl,rfl,rfl,rfl,rfl,?_,?_⟩
 ·exact⟨rfl,rfl,rfl,fun _=>rfl,rfl,rfl,rfl,rfl,rfl,rfl,rfl,rfl,rfl,rfl,rfl,rfl,rfl,trivial⟩
 ·exact h
theorem ko2 (PT:SV→List SB→List Nat→Prop) (cL cB cM bL bM gL gM b:List Int) (cm cap An Ac acap:Nat) (Oa Ob Oc:Nat→Int) (x:Int) (hx:b.getD 0 0=x) (hb:1≤b.length) (hx2:0≤x∧x<256) (hm:52<x) (h:PT (.tup [.val (.slice none 0 0),.int .i64 0,.int .i64 11]) (kH cL cB cM bL bM gL gM b cm (.bufA 79 3 An (fun m=>[.int .u8 (Oa m),.int .u8 (Ob m),.int .u16 (Oc m)]) Ac)) []):Con Try.prog 34 [.ptr 0 (.n 2) 7 0,.int .u8 1,.slice 1 .z 1 b.length cap,.slice 2 .z 3 An acap] (kH cL cB cM bL bM gL gM b cm (.bufA 79 3 An (fun m=>[.int .u8 (Oa m),.int .u8 (Ob m),.int .u16 (Oc m)]) Ac)) PT:=by
 refine kR (kf (kD (kg (kc kj qB ?_))))
 intro _ vc vw _ vofN vaddN _ _ _ _ vgd _ vln _ _ _ _ _ _ _ _ _ _ qc qw _ qofN qaddN _ _ _ _ qgd _ qln _ _ _ _ _ _ _ _;have hgt:vc .gtr x 52=true:=by rw[qc,gtr_true];exact hm
 clear hm;have hm:=kj;generalize Try.prog=P at *;have h10:vc .eql 1 0=false:=by rw[qc];rfl
 have h11:vc .eql 1 1=true:=by rw[qc];rfl
 obtain⟨bl,hbl⟩:∃bl,bl=b.length:=⟨_,rfl⟩;obtain⟨bi,hbi⟩:∃bi:Int,bi=bl:=⟨_,rfl⟩;have ho:vofN bl=bi:=by simp only[qofN];exact hbi.symm
 have hn0:vc .eql bi 0=false:=by rw[qc,kh];omega
 have hin:(0:Int)≤0∧(0:Int)<(bl:Int):=by omega
 have hadd:vaddN 0 0=0:=by simp only[qaddN]
 have hlb:vln b=bl:=by simp only[qln];exact hbl.symm
 have h0b:0<bl:=by omega
 have hg:vgd b 0=x:=by simp only[qgd];exact hx
 have hw8:vw .i64 x=x:=by rw[qw];exact wrap_i64 (by omega) (by omega)
 rw[←hbl];cbv;rw[h10];cbv;rw[h11];cbv;rw[ho,hn0];cbv;refine⟨⟨hin⟩,⟨by rw[hadd,hlb];exact h0b⟩,⟨by rw[hlb];exact h0b⟩,?_⟩
 rw[hg,hw8,hgt];cbv;(repeat refine And.intro (fun _=>rfl) ?_);refine⟨[],[0,1,2,3,4,5,6,7,8,9,10,11,12,13,14,15],.tup [.val (.slice none 0 0),.lit .i64 0,.lit .i64 11],(kH cL cB cM bL bM gL gM b cm (.bufA 79 3 An (fun m=>[.int .u8 (Oa m),.int .u8 (Ob m),.int .u16 (Oc m)]) Ac)),rfl,rfl,rfl,rfl,rfl,?_,?_⟩
 ·exact⟨rfl,rfl,rfl,fun _=>rfl,rfl,rfl,rfl,rfl,rfl,rfl,rfl,rfl,rfl,rfl,rfl,rfl,rfl,trivial⟩
 ·exact h
theorem ko3 (PT:SV→List SB→List Nat→Prop) (cL cB cM bL bM gL gM b:List Int) (cm cap An Ac acap:Nat) (Oa Ob Oc:Nat→Int) (x:Int) (hx:b.getD 0 0=x) (hb:1≤b.length) (hx2:0≤x∧x<256) (hm:¬52<x) (h:PT (.tup [.slice 2 .z 3 1 1,.int .i64 1,.int .i64 0]) (kH cL cB cM bL bM gL gM b cm (.bufA 79 3 1 (fun _=>[.int .u8 x,.int .u8 0,.int .u16 0]) 1)) [2]):Con Try.prog 34 [.ptr 0 (.n 2) 7 0,.int .u8 1,.slice 1 .z 1 b.length cap,.slice 2 .z 3 An acap] (kH cL cB cM bL bM gL gM b cm (.bufA 79 3 An (fun m=>[.int .u8 (Oa m),.int .u8 (Ob m),.int .u16 (Oc m)]) Ac)) PT:=by
 refine kR (kf (kD (kg (kc kj qB ?_))))
 intro _ vc vw _ vofN vaddN _ _ _ _ vgd _ vln _ _ _ _ _ _ _ _ _ _ qc qw _ qofN qaddN _ _ _ _ qgd _ qln _ _ _ _ _ _ _ _;have hgt:vc .gtr x 52=false:=by rw[qc,gtr_false];exact hm
 clear hm;have hm:=kj;generalize Try.prog=P at *;have h10:vc .eql 1 0=false:=by rw[qc];rfl
 have h11:vc .eql 1 1=true:=by rw[qc];rfl
 obtain⟨bl,hbl⟩:∃bl,bl=b.length:=⟨_,rfl⟩;obtain⟨bi,hbi⟩:∃bi:Int,bi=bl:=⟨_,rfl⟩;have ho:vofN bl=bi:=by simp only[qofN];exact hbi.symm
 have hn0:vc .eql bi 0=false:=by rw[qc,kh];omega
 have hin:(0:Int)≤0∧(0:Int)<(bl:Int):=by omega
 have hadd:vaddN 0 0=0:=by simp only[qaddN]
 have hlb:vln b=bl:=by simp only[qln];exact hbl.symm
 have h0b:0<bl:=by omega
 have hg:vgd b 0=x:=by simp only[qgd];exact hx
 have hw8:vw .i64 x=x:=by rw[qw];exact wrap_i64 (by omega) (by omega)
 rw[←hbl];cbv;rw[h10];cbv;rw[h11];cbv;rw[ho,hn0];cbv;refine⟨⟨hin⟩,⟨by rw[hadd,hlb];exact h0b⟩,⟨by rw[hlb];exact h0b⟩,?_⟩
 rw[hg,hw8,hgt];cbv;refine⟨⟨hin⟩,⟨by rw[hadd,hlb];exact h0b⟩,⟨by rw[hlb];exact h0b⟩,?_⟩
 rw[hg];(repeat refine And.intro (fun _=>rfl) ?_);refine⟨[2],[0,1,16,3,4,5,6,7,8,9,10,11,12,13,14,15],.tup [.slice 2 .z 3 1 1,.lit .i64 1,.lit .i64 0],(kH cL cB cM bL bM gL gM b cm (.bufR 79 3 [.int .u8 x,.lit .u8 0,.lit .u16 0] 1)),rfl,rfl,rfl,rfl,rfl,?_,?_⟩
 ·exact⟨rfl,rfl,rfl,rfl,rfl,rfl,rfl,rfl,rfl,rfl,rfl,rfl,rfl,rfl,rfl,rfl,trivial⟩
 ·exact h
theorem ko4 (PT:SV→List SB→List Nat→Prop) (cL cB cM bL bM gL gM b:List Int) (cm cap An Ac acap:Nat) (Oa Ob Oc:Nat→Int) (e:Int) (he:e≠0)
  (hRd:Con Try.prog 70 [.slice 0 .z 1 b.length cap,.int .i64 9,.int .i64 52] [.ro .u8 b] (fun v H R=>R=[]∧v=.tup [.val (.slice none 0 0),.int .i64 0,.int .i64 0,.int .i64 e]∧H=[.ro .u8 b]))
  (h:PT (.tup [.val (.slice none 0 0),.int .i64 0,.int .i64 (if e=10 then 10 else 11)]) (kH cL cB cM bL bM gL gM b cm (.bufA 79 3 An (fun m=>[.int .u8 (Oa m),.int .u8 (Ob m),.int .u16 (Oc m)]) Ac)) []):Con Try.prog 34 [.ptr 0 (.n 2) 7 0,.int .u8 2,.slice 1 .z 1 b.length cap,.slice 2 .z 3 An acap] (kH cL cB cM bL bM gL gM b cm (.bufA 79 3 An (fun m=>[.int .u8 (Oa m),.int .u8 (Ob m),.int .u16 (Oc m)]) Ac)) PT:=by
 refine kR (kf (kD (kg (kc kj qB ?_))))
 intro _ vc _ _ _ _ _ _ _ _ _ _ _ _ _ _ _ _ _ _ _ _ _ qc _ _ _ _ _ _ _ _ _ _ _ _ _ _ _ _ _ _ _;have hm:=kj;generalize Try.prog=P at *;have he0:vc .eql e 0=false:=by rw[qc,kh];exact he
 have he1:vc .neq e 0=true:=by rw[qc,kz];exact he
 generalize b.length=bl at *;have h20:vc .eql 2 0=false:=by rw[qc];rfl
 have h21:vc .eql 2 1=false:=by rw[qc];rfl
 have h22:vc .eql 2 2=true:=by rw[qc];rfl
 cbv;rw[h20];cbv;rw[h21];cbv;rw[h22];cbv;refine ka (ρ:=[(1,.z)]) hRd ⟨by rfl,by rfl,by rfl,by cbv;refine⟨fun _=>rfl,?_⟩;exact⟨kb _,trivial⟩⟩ ?_
 rintro v H R js ⟨rfl,rfl,rfl⟩;cbv;(repeat refine And.intro (fun _=>rfl) ?_);cbv;rw[he0];cbv;rw[he1];cbv;by_cases h10:e=10
 ·have he2:vc .neq e 10=false:=by rw[qc,kQ];omega
  rw[if_pos h10] at h;subst h10;rw[he2];cbv;(repeat refine And.intro (fun _=>rfl) ?_);refine⟨[],[0,1,2,3,4,5,6,7,8,9,10,11,12,13,14,15],.tup [.val (.slice none 0 0),.int .i64 0,.int .i64 10],(kH cL cB cM bL bM gL gM b cm (.bufA 79 3 An (fun m=>[.int .u8 (Oa m),.int .u8 (Ob m),.int .u16 (Oc m)]) Ac)),rfl,rfl,rfl,rfl,rfl,?_,?_⟩
  ·exact⟨rfl,rfl,rfl,fun _=>rfl,rfl,rfl,rfl,rfl,rfl,rfl,rfl,rfl,rfl,rfl,rfl,rfl,rfl,trivial⟩
  ·exact h
 ·have he2:vc .neq e 10=true:=by rw[qc,kz];exact h10
  rw[if_neg h10] at h;rw[he2];cbv;(repeat refine And.intro (fun _=>rfl) ?_);refine⟨[],[0,1,2,3,4,5,6,7,8,9,10,11,12,13,14,15],.tup [.val (.slice none 0 0),.int .i64 0,.lit .i64 11],(kH cL cB cM bL bM gL gM b cm (.bufA 79 3 An (fun m=>[.int .u8 (Oa m),.int .u8 (Ob m),.int .u16 (Oc m)]) Ac)),rfl,rfl,rfl,rfl,rfl,?_,?_⟩
  ·exact⟨rfl,rfl,rfl,fun _=>rfl,rfl,rfl,rfl,rfl,rfl,rfl,rfl,rfl,rfl,rfl,rfl,rfl,rfl,trivial⟩
  ·exact h
theorem ko5 (PT:SV→List SB→List Nat→Prop) (cL cB cM bL bM gL gM b:List Int) (cm cap An Ac acap:Nat) (Oa Ob Oc:Nat→Int) (cs:List Int) (log used:Int)
  (hRd:Con Try.prog 70 [.slice 0 .z 1 b.length cap,.int .i64 9,.int .i64 52] [.ro .u8 b] (fun v H R=>R=[]∧∃c,v=.tup [.slice 1 .z 1 cs.length c,.int .i64 log,.int .i64 used,.int .i64 0]∧H=[.ro .u8 b,.buf 124 .i16 cs c]))
  (hT:∀c,Con Try.prog 66 [.slice 0 .z 1 cs.length c,.int .i64 log] [.ro .i16 cs] (fun v H R=>R=[]∧v=.tup [.val (.slice none 0 0),.int .i64 70]∧H=[.ro .i16 cs]))
  (h:∀u,PT (.tup [.val (.slice none 0 0),.int .i64 u,.int .i64 11]) (kH cL cB cM bL bM gL gM b cm (.bufA 79 3 An (fun m=>[.int .u8 (Oa m),.int .u8 (Ob m),.int .u16 (Oc m)]) Ac)) []):Con Try.prog 34 [.ptr 0 (.n 2) 7 0,.int .u8 2,.slice 1 .z 1 b.length cap,.slice 2 .z 3 An acap] (kH cL cB cM bL bM gL gM b cm (.bufA 79 3 An (fun m=>[.int .u8 (Oa m),.int .u8 (Ob m),.int .u16 (Oc m)]) Ac)) PT:=by
 refine kR (kf (kD (kg (kc kj qB ?_))))
 intro _ vc _ _ _ _ _ _ _ _ _ _ _ _ _ _ _ _ _ _ _ _ _ qc _ _ _ _ _ _ _ _ _ _ _ _ _ _ _ _ _ _ _;have hm:=kj;generalize Try.prog=P at *;have h00:vc .eql 0 0=true:=by rw[qc];rfl
 have h70:vc .neq 70 0=true:=by rw[qc];rfl
 have h71:vc .neq 70 10=true:=by rw[qc];rfl
 generalize b.length=bl at *;generalize cs.length=cl at *;have h20:vc .eql 2 0=false:=by rw[qc];rfl
 have h21:vc .eql 2 1=false:=by rw[qc];rfl
 have h22:vc .eql 2 2=true:=by rw[qc];rfl
 cbv;rw[h20];cbv;rw[h21];cbv;rw[h22];cbv;refine ka (ρ:=[(1,.z)]) hRd ⟨by rfl,by rfl,by rfl,by cbv;refine⟨fun _=>rfl,?_⟩;exact⟨kb _,trivial⟩⟩ ?_
 rintro v H R js ⟨rfl,c,rfl,rfl⟩;cbv;(repeat refine And.intro (fun _=>rfl) ?_);cbv;rw[h00];cbv;refine ka (ρ:=[(16,.z)]) (hT c) ⟨by rfl,by rfl,by rfl,by cbv;refine⟨fun _=>rfl,?_⟩;exact⟨kb _,trivial⟩⟩ ?_
 rintro v H R js ⟨rfl,rfl,rfl⟩;cbv;(repeat refine And.intro (fun _=>rfl) ?_);cbv;rw[h70];cbv;rw[h71];cbv;(repeat refine And.intro (fun _=>rfl) ?_);refine⟨[],[0,1,2,3,4,5,6,7,8,9,10,11,12,13,14,15],.tup [.val (.slice none 0 0),.int .i64 used,.lit .i64 11],(kH cL cB cM bL bM gL gM b cm (.bufA 79 3 An (fun m=>[.int .u8 (Oa m),.int .u8 (Ob m),.int .u16 (Oc m)]) Ac)),rfl,rfl,rfl,rfl,rfl,?_,?_⟩
 ·exact⟨rfl,rfl,rfl,fun _=>rfl,rfl,rfl,rfl,rfl,rfl,rfl,rfl,rfl,rfl,rfl,rfl,rfl,rfl,trivial⟩
 ·exact h used
theorem ko6 (PT:SV→List SB→List Nat→Prop) (cL cB cM bL bM gL gM b:List Int) (cm cap An Ac acap:Nat) (Oa Ob Oc:Nat→Int) (cs:List Int) (log used:Int) (N:Nat) (A B C:Nat→Int)
  (hRd:Con Try.prog 70 [.slice 0 .z 1 b.length cap,.int .i64 9,.int .i64 52] [.ro .u8 b] (fun v H R=>R=[]∧∃c,v=.tup [.slice 1 .z 1 cs.length c,.int .i64 log,.int .i64 used,.int .i64 0]∧H=[.ro .u8 b,.buf 124 .i16 cs c]))
  (hT:∀c,Con Try.prog 66 [.slice 0 .z 1 cs.length c,.int .i64 log] [.ro .i16 cs] (fun v H R=>R=[]∧v=.tup [.slice 1 .z 3 N N,.int .i64 0]∧H=[.ro .i16 cs,.arr 79 3 N (fun m=>[.int .u8 (A m),.int .u8 (B m),.int .u16 (C m)])]))
  (h:PT (.tup [.slice 2 .z 3 N N,.int .i64 used,.int .i64 0]) (kH cL cB cM bL bM gL gM b cm (.bufA 79 3 N (fun m=>[.int .u8 (A m),.int .u8 (B m),.int .u16 (C m)]) N)) [2]):Con Try.prog 34 [.ptr 0 (.n 2) 7 0,.int .u8 2,.slice 1 .z 1 b.length cap,.slice 2 .z 3 An acap] (kH cL cB cM bL bM gL gM b cm (.bufA 79 3 An (fun m=>[.int .u8 (Oa m),.int .u8 (Ob m),.int .u16 (Oc m)]) Ac)) PT:=by
 refine kR (kf (kD (kg (kc kj qB ?_))))
 intro _ vc _ _ _ _ _ _ _ _ _ _ _ _ _ _ _ _ _ _ _ _ _ qc _ _ _ _ _ _ _ _ _ _ _ _ _ _ _ _ _ _ _;have hm:=kj;generalize Try.prog=P at *;have h00:vc .eql 0 0=true:=by rw[qc];rfl
 have h01:vc .neq 0 0=false:=by rw[qc];rfl
 generalize b.length=bl at *;generalize cs.length=cl at *;have h20:vc .eql 2 0=false:=by rw[qc];rfl
 have h21:vc .eql 2 1=false:=by rw[qc];rfl
 have h22:vc .eql 2 2=true:=by rw[qc];rfl
 cbv;rw[h20];cbv;rw[h21];cbv;rw[h22];cbv;refine ka (ρ:=[(1,.z)]) hRd ⟨by rfl,by rfl,by rfl,by cbv;refine⟨fun _=>rfl,?_⟩;exact⟨kb _,trivial⟩⟩ ?_
 rintro v H R js ⟨rfl,c,rfl,rfl⟩;cbv;(repeat refine And.intro (fun _=>rfl) ?_);cbv;rw[h00];cbv;refine ka (ρ:=[(16,.z)]) (hT c) ⟨by rfl,by rfl,by rfl,by cbv;refine⟨fun _=>rfl,?_⟩;exact⟨kb _,trivial⟩⟩ ?_
 rintro v H R js ⟨rfl,rfl,rfl⟩;cbv;(repeat refine And.intro (fun _=>rfl) ?_);cbv;rw[h01];cbv;(repeat refine And.intro (fun _=>rfl) ?_);refine⟨[2],[0,1,17,3,4,5,6,7,8,9,10,11,12,13,14,15],.tup [.slice 2 .z 3 N N,.int .i64 used,.int .i64 0],(kH cL cB cM bL bM gL gM b cm (.arr 79 3 N (fun m=>[.int .u8 (A m),.int .u8 (B m),.int .u16 (C m)]))),rfl,rfl,rfl,rfl,rfl,?_,?_⟩
 ·exact⟨rfl,rfl,rfl,fun _=>rfl,rfl,rfl,rfl,rfl,rfl,rfl,rfl,rfl,rfl,rfl,rfl,rfl,rfl,trivial⟩
 ·exact h
theorem ko7 (PT:SV→List SB→List Nat→Prop) (cL cB cM bL bM gL gM b:List Int) (cm cap An Ac acap:Nat) (Oa Ob Oc:Nat→Int) (hA:An=0) (h:PT (.tup [.val (.slice none 0 0),.int .i64 0,.int .i64 11]) (kH cL cB cM bL bM gL gM b cm (.bufA 79 3 An (fun m=>[.int .u8 (Oa m),.int .u8 (Ob m),.int .u16 (Oc m)]) Ac)) []):Con Try.prog 34 [.ptr 0 (.n 2) 7 0,.int .u8 3,.slice 1 .z 1 b.length cap,.slice 2 .z 3 An acap] (kH cL cB cM bL bM gL gM b cm (.bufA 79 3 An (fun m=>[.int .u8 (Oa m),.int .u8 (Ob m),.int .u16 (Oc m)]) Ac)) PT:=by
 refine kR (kf (kD (kg (kc kj qB ?_))))
 intro _ vc _ _ vofN _ _ _ _ _ _ _ _ _ _ _ _ _ _ _ _ _ _ qc _ _ qofN _ _ _ _ _ _ _ _ _ _ _ _ _ _ _ _;have hm:=kj;generalize Try.prog=P at *;have ho:vofN An=0:=by simp only[qofN];rw[hA];rfl
 have h00:vc .eql 0 0=true:=by rw[qc];rfl
 have h30:vc .eql 3 0=false:=by rw[qc];rfl
 have h31:vc .eql 3 1=false:=by rw[qc];rfl
 have h32:vc .eql 3 2=false:=by rw[qc];rfl
 generalize b.length=bl at *;cbv;rw[h30];cbv;rw[h31];cbv;rw[h32];cbv;rw[ho,h00];cbv;(repeat refine And.intro (fun _=>rfl) ?_);refine⟨[],[0,1,2,3,4,5,6,7,8,9,10,11,12,13,14,15],.tup [.val (.slice none 0 0),.lit .i64 0,.lit .i64 11],(kH cL cB cM bL bM gL gM b cm (.bufA 79 3 An (fun m=>[.int .u8 (Oa m),.int .u8 (Ob m),.int .u16 (Oc m)]) Ac)),rfl,rfl,rfl,rfl,rfl,?_,?_⟩
 ·exact⟨rfl,rfl,rfl,fun _=>rfl,rfl,rfl,rfl,rfl,rfl,rfl,rfl,rfl,rfl,rfl,rfl,rfl,rfl,trivial⟩
 ·exact h
theorem ko8 (PT:SV→List SB→List Nat→Prop) (cL cB cM bL bM gL gM b:List Int) (cm cap An Ac acap:Nat) (Oa Ob Oc:Nat→Int) (hA:¬An=0) (h:PT (.tup [.slice 2 .z 3 An acap,.int .i64 0,.int .i64 0]) (kH cL cB cM bL bM gL gM b cm (.bufA 79 3 An (fun m=>[.int .u8 (Oa m),.int .u8 (Ob m),.int .u16 (Oc m)]) Ac)) [2]):Con Try.prog 34 [.ptr 0 (.n 2) 7 0,.int .u8 3,.slice 1 .z 1 b.length cap,.slice 2 .z 3 An acap] (kH cL cB cM bL bM gL gM b cm (.bufA 79 3 An (fun m=>[.int .u8 (Oa m),.int .u8 (Ob m),.int .u16 (Oc m)]) Ac)) PT:=by
 refine kR (kf (kD (kg (kc kj qB ?_))))
 intro _ vc _ _ vofN _ _ _ _ _ _ _ _ _ _ _ _ _ _ _ _ _ _ qc _ _ qofN _ _ _ _ _ _ _ _ _ _ _ _ _ _ _ _;have hm:=kj;generalize Try.prog=P at *;obtain⟨ni,hni⟩:∃ni:Int,ni=An:=⟨_,rfl⟩;have ho:vofN An=ni:=by simp only[qofN];exact hni.symm
 have h00:vc .eql ni 0=false:=by rw[qc,kh];omega
 have h30:vc .eql 3 0=false:=by rw[qc];rfl
 have h31:vc .eql 3 1=false:=by rw[qc];rfl
 have h32:vc .eql 3 2=false:=by rw[qc];rfl
 generalize b.length=bl at *;cbv;rw[h30];cbv;rw[h31];cbv;rw[h32];cbv;rw[ho,h00];cbv;(repeat refine And.intro (fun _=>rfl) ?_);refine⟨[2],[0,1,2,3,4,5,6,7,8,9,10,11,12,13,14,15],.tup [.slice 2 .z 3 An acap,.lit .i64 0,.lit .i64 0],(kH cL cB cM bL bM gL gM b cm (.bufA 79 3 An (fun m=>[.int .u8 (Oa m),.int .u8 (Ob m),.int .u16 (Oc m)]) Ac)),rfl,rfl,rfl,rfl,rfl,?_,?_⟩
 ·exact⟨rfl,rfl,rfl,fun _=>rfl,rfl,rfl,rfl,rfl,rfl,rfl,rfl,rfl,rfl,rfl,rfl,rfl,rfl,trivial⟩
 ·exact h
theorem knH {l:List Int} (h:l.all (fun c=>decide (-32768≤c∧c≤32767))=true):∀c∈l,jP c:=fun c hc=>by
 have:=List.all_eq_true.1 h c hc;simpa [jP] using this
theorem ko9:∀c∈kdm,jP c:=knH (by decide)
theorem kpa:∀c∈kdW,jP c:=knH (by decide)
theorem kpb:∀c∈cntM,jP c:=knH (by decide)
theorem kcM:jL kdm 6:=by decide
theorem kcN:jL kdW 5:=by decide
theorem kcO:jL cntM 6:=by decide
theorem kpc (cL cB cM bL bM gL gM b:List Int) (cm cap An Ac acap:Nat) (Oa Ob Oc:Nat→Int) (way e used:Int) (n:Nat) (A B C:Nat→Int) (hway:0≤way∧way≤3) (hby:∀x∈b,isByte x) (hl:b.length≤140737488355328) (hc:cL=kdm)
  (hr:qP 9 35 6 kdm way b ⟨An,Oa,Ob,Oc⟩=(e,used,⟨n,A,B,C⟩)) :
  Con Try.prog 34 [.ptr 0 (.n 0) 7 0,.int .u8 way,.slice 1 .z 1 b.length cap,.slice 2 .z 3 An acap] (kH cL cB cM bL bM gL gM b cm (.bufA 79 3 An (fun m=>[.int .u8 (Oa m),.int .u8 (Ob m),.int .u16 (Oc m)]) Ac))
   (fun v H R=>(e≠0∧R=[]∧H=(kH cL cB cM bL bM gL gM b cm (.bufA 79 3 An (fun m=>[.int .u8 (Oa m),.int .u8 (Ob m),.int .u16 (Oc m)]) Ac))∧∃u,v=.tup [.val (.slice none 0 0),.int .i64 u,.int .i64 e]) ∨
    (e=0∧R=[2]∧∃cp c',v=.tup [.slice 2 .z 3 n cp,.int .i64 used,.int .i64 0]∧H=kH cL cB cM bL bM gL gM b cm (.bufA 79 3 n (fun m=>[.int .u8 (A m),.int .u8 (B m),.int .u16 (C m)]) c'))):=by
 unfold qP at hr;rcases(by omega:way=0∨way=1∨way=2∨way=3) with rfl|rfl|rfl|rfl
 ·rw[if_pos rfl] at hr;simp only[mkT,Prod.mk.injEq,Tb.mk.injEq] at hr;obtain⟨rfl,rfl,rfl,rfl,rfl,rfl⟩:=hr;have hT:=kaw kdm 6 36 ko9 (by decide) kcM;refine kqy _ cL cB cM bL bM gL gM b cm cap An Ac acap Oa Ob Oc _ _ _ _ (by rw[hc];rfl) (by rw[hc];exact hT) ?_
  exact .inr ⟨rfl,rfl,_,_,rfl,rfl⟩
 ·rw[if_neg (by decide),if_pos rfl] at hr;by_cases hb:b.length=0
  ·rw[if_pos hb] at hr;simp only[Prod.mk.injEq] at hr;obtain⟨rfl,rfl,_⟩:=hr;exact koL _ cL cB cM bL bM gL gM b cm cap An Ac acap Oa Ob Oc hb (.inl ⟨by decide,rfl,rfl,_,rfl⟩)
  ·rw[if_neg hb] at hr;have hx:isByte (b.getD 0 0):=by
    rw[List.getD_eq_getElem?_getD,List.getElem?_eq_getElem (by omega)];exact hby _ (List.getElem_mem _)
   by_cases hm:35<b.getD 0 0
   ·rw[if_pos hm] at hr;simp only[Prod.mk.injEq] at hr;obtain⟨rfl,rfl,_⟩:=hr;exact koM _ cL cB cM bL bM gL gM b cm cap An Ac acap Oa Ob Oc _ rfl (by omega) hx hm (.inl ⟨by decide,rfl,rfl,_,rfl⟩)
   ·rw[if_neg hm] at hr;simp only[kjM,Prod.mk.injEq,Tb.mk.injEq] at hr;obtain⟨rfl,rfl,rfl,rfl,rfl,rfl⟩:=hr;exact koN _ cL cB cM bL bM gL gM b cm cap An Ac acap Oa Ob Oc _ rfl (by omega) hx hm (.inr ⟨rfl,rfl,_,_,rfl,rfl⟩)
 ·rw [if_neg (by decide),if_neg (by decide),if_pos rfl] at hr
  obtain⟨⟨cs,log,us,er⟩,hRR⟩:∃r,j4 b 9 35=r:=⟨_,rfl⟩;rw[hRR] at hr;simp only at hr
  by_cases he:er=0
  ·subst he;rw[if_neg (by decide)] at hr;obtain⟨hcs,_,_,hlg0,hlg1⟩:=kb1 hRR;have hRd:=keC b cap 9 35 hby hl (by decide) (by decide) cs log us hRR;by_cases hR:jL cs log
   ·rw[if_neg (by simp[hR])] at hr;simp only[mkT,Prod.mk.injEq,Tb.mk.injEq] at hr;obtain⟨rfl,rfl,rfl,rfl,rfl,rfl⟩:=hr;exact koQ _ cL cB cM bL bM gL gM b cm cap An Ac acap Oa Ob Oc cs log us _ _ _ _ hRd (fun c=>kaw cs log c hcs (by omega) hR) (.inr ⟨rfl,rfl,_,_,rfl,rfl⟩)
   ·rw[if_pos (by simp[hR])] at hr;simp only[Prod.mk.injEq] at hr;obtain⟨rfl,rfl,_⟩:=hr;exact koP _ cL cB cM bL bM gL gM b cm cap An Ac acap Oa Ob Oc cs log us hRd (fun c=>kci cs log c hcs (by omega) hR) (fun u=>.inl ⟨by decide,rfl,rfl,_,rfl⟩)
  ·have hRd:=kdj b cap 9 35 hby hl (by decide) (by decide) cs log us er hRR he;have e1:e=if er=10 then 10 else 11:=by
    split at hr
    ·rename_i h10;simp only[Prod.mk.injEq] at hr;rw[if_pos h10,hr.1]
    ·rename_i h10;rw[if_pos (.inl he)] at hr;simp only[Prod.mk.injEq] at hr;rw[if_neg h10,hr.1]
   refine koO _ cL cB cM bL bM gL gM b cm cap An Ac acap Oa Ob Oc er he hRd (.inl ⟨?_,rfl,rfl,_,by rw[e1]⟩)
   rw[e1];split<;>decide
 ·rw[if_neg (by decide),if_neg (by decide),if_neg (by decide)] at hr;by_cases hA:An=0
  ·rw[if_pos hA] at hr;simp only[Prod.mk.injEq] at hr;obtain⟨rfl,rfl,_⟩:=hr;exact koR _ cL cB cM bL bM gL gM b cm cap An Ac acap Oa Ob Oc hA (.inl ⟨by decide,rfl,rfl,_,rfl⟩)
  ·rw[if_neg hA] at hr;simp only[Prod.mk.injEq,Tb.mk.injEq] at hr;obtain⟨rfl,rfl,rfl,rfl,rfl,rfl⟩:=hr;exact koS _ cL cB cM bL bM gL gM b cm cap An Ac acap Oa Ob Oc hA (.inr ⟨rfl,rfl,_,_,rfl,rfl⟩)
theorem kpd (cL cB cM bL bM gL gM b:List Int) (cm cap An Ac acap:Nat) (Oa Ob Oc:Nat→Int) (way e used:Int) (n:Nat) (A B C:Nat→Int) (hway:0≤way∧way≤3) (hby:∀x∈b,isByte x) (hl:b.length≤140737488355328) (hc:cB=kdW)
  (hr:qP 8 31 5 kdW way b ⟨An,Oa,Ob,Oc⟩=(e,used,⟨n,A,B,C⟩)) :
  Con Try.prog 34 [.ptr 0 (.n 1) 7 0,.int .u8 way,.slice 1 .z 1 b.length cap,.slice 2 .z 3 An acap] (kH cL cB cM bL bM gL gM b cm (.bufA 79 3 An (fun m=>[.int .u8 (Oa m),.int .u8 (Ob m),.int .u16 (Oc m)]) Ac))
   (fun v H R=>(e≠0∧R=[]∧H=(kH cL cB cM bL bM gL gM b cm (.bufA 79 3 An (fun m=>[.int .u8 (Oa m),.int .u8 (Ob m),.int .u16 (Oc m)]) Ac))∧∃u,v=.tup [.val (.slice none 0 0),.int .i64 u,.int .i64 e]) ∨
    (e=0∧R=[2]∧∃cp c',v=.tup [.slice 2 .z 3 n cp,.int .i64 used,.int .i64 0]∧H=kH cL cB cM bL bM gL gM b cm (.bufA 79 3 n (fun m=>[.int .u8 (A m),.int .u8 (B m),.int .u16 (C m)]) c'))):=by
 unfold qP at hr;rcases(by omega:way=0∨way=1∨way=2∨way=3) with rfl|rfl|rfl|rfl
 ·rw[if_pos rfl] at hr;simp only[mkT,Prod.mk.injEq,Tb.mk.injEq] at hr;obtain⟨rfl,rfl,rfl,rfl,rfl,rfl⟩:=hr;have hT:=kaw kdW 5 29 kpa (by decide) kcN;refine kqz _ cL cB cM bL bM gL gM b cm cap An Ac acap Oa Ob Oc _ _ _ _ (by rw[hc];rfl) (by rw[hc];exact hT) ?_
  exact .inr ⟨rfl,rfl,_,_,rfl,rfl⟩
 ·rw[if_neg (by decide),if_pos rfl] at hr;by_cases hb:b.length=0
  ·rw[if_pos hb] at hr;simp only[Prod.mk.injEq] at hr;obtain⟨rfl,rfl,_⟩:=hr;exact koT _ cL cB cM bL bM gL gM b cm cap An Ac acap Oa Ob Oc hb (.inl ⟨by decide,rfl,rfl,_,rfl⟩)
  ·rw[if_neg hb] at hr;have hx:isByte (b.getD 0 0):=by
    rw[List.getD_eq_getElem?_getD,List.getElem?_eq_getElem (by omega)];exact hby _ (List.getElem_mem _)
   by_cases hm:31<b.getD 0 0
   ·rw[if_pos hm] at hr;simp only[Prod.mk.injEq] at hr;obtain⟨rfl,rfl,_⟩:=hr;exact koU _ cL cB cM bL bM gL gM b cm cap An Ac acap Oa Ob Oc _ rfl (by omega) hx hm (.inl ⟨by decide,rfl,rfl,_,rfl⟩)
   ·rw[if_neg hm] at hr;simp only[kjM,Prod.mk.injEq,Tb.mk.injEq] at hr;obtain⟨rfl,rfl,rfl,rfl,rfl,rfl⟩:=hr;exact koV _ cL cB cM bL bM gL gM b cm cap An Ac acap Oa Ob Oc _ rfl (by omega) hx hm (.inr ⟨rfl,rfl,_,_,rfl,rfl⟩)
 ·rw [if_neg (by decide),if_neg (by decide),if_pos rfl] at hr
  obtain⟨⟨cs,log,us,er⟩,hRR⟩:∃r,j4 b 8 31=r:=⟨_,rfl⟩;rw[hRR] at hr;simp only at hr
  by_cases he:er=0
  ·subst he;rw[if_neg (by decide)] at hr;obtain⟨hcs,_,_,hlg0,hlg1⟩:=kb1 hRR;have hRd:=keC b cap 8 31 hby hl (by decide) (by decide) cs log us hRR;by_cases hR:jL cs log
   ·rw[if_neg (by simp[hR])] at hr;simp only[mkT,Prod.mk.injEq,Tb.mk.injEq] at hr;obtain⟨rfl,rfl,rfl,rfl,rfl,rfl⟩:=hr;exact koY _ cL cB cM bL bM gL gM b cm cap An Ac acap Oa Ob Oc cs log us _ _ _ _ hRd (fun c=>kaw cs log c hcs (by omega) hR) (.inr ⟨rfl,rfl,_,_,rfl,rfl⟩)
   ·rw[if_pos (by simp[hR])] at hr;simp only[Prod.mk.injEq] at hr;obtain⟨rfl,rfl,_⟩:=hr;exact koX _ cL cB cM bL bM gL gM b cm cap An Ac acap Oa Ob Oc cs log us hRd (fun c=>kci cs log c hcs (by omega) hR) (fun u=>.inl ⟨by decide,rfl,rfl,_,rfl⟩)
  ·have hRd:=kdj b cap 8 31 hby hl (by decide) (by decide) cs log us er hRR he;have e1:e=if er=10 then 10 else 11:=by
    split at hr
    ·rename_i h10;simp only[Prod.mk.injEq] at hr;rw[if_pos h10,hr.1]
    ·rename_i h10;rw[if_pos (.inl he)] at hr;simp only[Prod.mk.injEq] at hr;rw[if_neg h10,hr.1]
   refine koW _ cL cB cM bL bM gL gM b cm cap An Ac acap Oa Ob Oc er he hRd (.inl ⟨?_,rfl,rfl,_,by rw[e1]⟩)
   rw[e1];split<;>decide
 ·rw[if_neg (by decide),if_neg (by decide),if_neg (by decide)] at hr;by_cases hA:An=0
  ·rw[if_pos hA] at hr;simp only[Prod.mk.injEq] at hr;obtain⟨rfl,rfl,_⟩:=hr;exact koZ _ cL cB cM bL bM gL gM b cm cap An Ac acap Oa Ob Oc hA (.inl ⟨by decide,rfl,rfl,_,rfl⟩)
  ·rw[if_neg hA] at hr;simp only[Prod.mk.injEq,Tb.mk.injEq] at hr;obtain⟨rfl,rfl,rfl,rfl,rfl,rfl⟩:=hr;exact ko0 _ cL cB cM bL bM gL gM b cm cap An Ac acap Oa Ob Oc hA (.inr ⟨rfl,rfl,_,_,rfl,rfl⟩)
theorem kpe (cL cB cM bL bM gL gM b:List Int) (cm cap An Ac acap:Nat) (Oa Ob Oc:Nat→Int) (way e used:Int) (n:Nat) (A B C:Nat→Int) (hway:0≤way∧way≤3) (hby:∀x∈b,isByte x) (hl:b.length≤140737488355328) (hc:cM=cntM)
  (hr:qP 9 52 6 cntM way b ⟨An,Oa,Ob,Oc⟩=(e,used,⟨n,A,B,C⟩)) :
  Con Try.prog 34 [.ptr 0 (.n 2) 7 0,.int .u8 way,.slice 1 .z 1 b.length cap,.slice 2 .z 3 An acap] (kH cL cB cM bL bM gL gM b cm (.bufA 79 3 An (fun m=>[.int .u8 (Oa m),.int .u8 (Ob m),.int .u16 (Oc m)]) Ac))
   (fun v H R=>(e≠0∧R=[]∧H=(kH cL cB cM bL bM gL gM b cm (.bufA 79 3 An (fun m=>[.int .u8 (Oa m),.int .u8 (Ob m),.int .u16 (Oc m)]) Ac))∧∃u,v=.tup [.val (.slice none 0 0),.int .i64 u,.int .i64 e]) ∨
    (e=0∧R=[2]∧∃cp c',v=.tup [.slice 2 .z 3 n cp,.int .i64 used,.int .i64 0]∧H=kH cL cB cM bL bM gL gM b cm (.bufA 79 3 n (fun m=>[.int .u8 (A m),.int .u8 (B m),.int .u16 (C m)]) c'))):=by
 unfold qP at hr;rcases(by omega:way=0∨way=1∨way=2∨way=3) with rfl|rfl|rfl|rfl
 ·rw[if_pos rfl] at hr;simp only[mkT,Prod.mk.injEq,Tb.mk.injEq] at hr;obtain⟨rfl,rfl,rfl,rfl,rfl,rfl⟩:=hr;have hT:=kaw cntM 6 cm kpb (by decide) kcO;refine kqA _ cL cB cM bL bM gL gM b cm cap An Ac acap Oa Ob Oc _ _ _ _ (by rw[hc];rfl) (by rw[hc];exact hT) ?_
  exact .inr ⟨rfl,rfl,_,_,rfl,rfl⟩
 ·rw[if_neg (by decide),if_pos rfl] at hr;by_cases hb:b.length=0
  ·rw[if_pos hb] at hr;simp only[Prod.mk.injEq] at hr;obtain⟨rfl,rfl,_⟩:=hr;exact ko1 _ cL cB cM bL bM gL gM b cm cap An Ac acap Oa Ob Oc hb (.inl ⟨by decide,rfl,rfl,_,rfl⟩)
  ·rw[if_neg hb] at hr;have hx:isByte (b.getD 0 0):=by
    rw[List.getD_eq_getElem?_getD,List.getElem?_eq_getElem (by omega)];exact hby _ (List.getElem_mem _)
   by_cases hm:52<b.getD 0 0
   ·rw[if_pos hm] at hr;simp only[Prod.mk.injEq] at hr;obtain⟨rfl,rfl,_⟩:=hr;exact ko2 _ cL cB cM bL bM gL gM b cm cap An Ac acap Oa Ob Oc _ rfl (by omega) hx hm (.inl ⟨by decide,rfl,rfl,_,rfl⟩)
   ·rw[if_neg hm] at hr;simp only[kjM,Prod.mk.injEq,Tb.mk.injEq] at hr;obtain⟨rfl,rfl,rfl,rfl,rfl,rfl⟩:=hr;exact ko3 _ cL cB cM bL bM gL gM b cm cap An Ac acap Oa Ob Oc _ rfl (by omega) hx hm (.inr ⟨rfl,rfl,_,_,rfl,rfl⟩)
 ·rw [if_neg (by decide),if_neg (by decide),if_pos rfl] at hr
  obtain⟨⟨cs,log,us,er⟩,hRR⟩:∃r,j4 b 9 52=r:=⟨_,rfl⟩;rw[hRR] at hr;simp only at hr
  by_cases he:er=0
  ·subst he;rw[if_neg (by decide)] at hr;obtain⟨hcs,_,_,hlg0,hlg1⟩:=kb1 hRR;have hRd:=keC b cap 9 52 hby hl (by decide) (by decide) cs log us hRR;by_cases hR:jL cs log
   ·rw[if_neg (by simp[hR])] at hr;simp only[mkT,Prod.mk.injEq,Tb.mk.injEq] at hr;obtain⟨rfl,rfl,rfl,rfl,rfl,rfl⟩:=hr;exact ko6 _ cL cB cM bL bM gL gM b cm cap An Ac acap Oa Ob Oc cs log us _ _ _ _ hRd (fun c=>kaw cs log c hcs (by omega) hR) (.inr ⟨rfl,rfl,_,_,rfl,rfl⟩)
   ·rw[if_pos (by simp[hR])] at hr;simp only[Prod.mk.injEq] at hr;obtain⟨rfl,rfl,_⟩:=hr;exact ko5 _ cL cB cM bL bM gL gM b cm cap An Ac acap Oa Ob Oc cs log us hRd (fun c=>kci cs log c hcs (by omega) hR) (fun u=>.inl ⟨by decide,rfl,rfl,_,rfl⟩)
  ·have hRd:=kdj b cap 9 52 hby hl (by decide) (by decide) cs log us er hRR he;have e1:e=if er=10 then 10 else 11:=by
    split at hr
    ·rename_i h10;simp only[Prod.mk.injEq] at hr;rw[if_pos h10,hr.1]
    ·rename_i h10;rw[if_pos (.inl he)] at hr;simp only[Prod.mk.injEq] at hr;rw[if_neg h10,hr.1]
   refine ko4 _ cL cB cM bL bM gL gM b cm cap An Ac acap Oa Ob Oc er he hRd (.inl ⟨?_,rfl,rfl,_,by rw[e1]⟩)
   rw[e1];split<;>decide
 ·rw[if_neg (by decide),if_neg (by decide),if_neg (by decide)] at hr;by_cases hA:An=0
  ·rw[if_pos hA] at hr;simp only[Prod.mk.injEq] at hr;obtain⟨rfl,rfl,_⟩:=hr;exact ko7 _ cL cB cM bL bM gL gM b cm cap An Ac acap Oa Ob Oc hA (.inl ⟨by decide,rfl,rfl,_,rfl⟩)
  ·rw[if_neg hA] at hr;simp only[Prod.mk.injEq,Tb.mk.injEq] at hr;obtain⟨rfl,rfl,rfl,rfl,rfl,rfl⟩:=hr;exact ko8 _ cL cB cM bL bM gL gM b cm cap An Ac acap Oa Ob Oc hA (.inr ⟨rfl,rfl,_,_,rfl,rfl⟩)
set_option maxHeartbeats 40000000
theorem kpf (k n cap:Nat) (A B C:Nat→Int) (hn:n=2^k) (hk:k≤12) :
  Con Try.prog 30 [.slice 0 .z 3 n cap] [.roA 3 n (fun m=>[.int .u8 (A m),.int .u8 (B m),.int .u16 (C m)])] (fun v H R=>(∃ki:Int,ki=k∧v=.int .i64 ki)∧H=[.roA 3 n (fun m=>[.int .u8 (A m),.int .u8 (B m),.int .u16 (C m)])]∧R=[]):=by
 refine kf (kw 1 (by simp) (kg (kc kj krT ?_)))
 intro vb vc vw _ vofN _ _ _ _ _ _ _ _ _ _ _ _ _ _ _ _ hw qb qc qw _ qofN _ _ _ _ _ _ _ _ _ _ _ _ _ _ _ _;have hm:=kj;generalize Try.prog=P at *;obtain⟨ni,hni⟩:∃ni:Int,ni=n:=⟨_,rfl⟩;have ho:vofN n=ni:=by simp only[qofN];exact hni.symm
 have hni2:ni=2^k:=by rw[hni,hn];push_cast;rfl
 cbv;refine kG (α:=Int) ((List.range' 4 8)) [] (fun x=>[(3,.int .i64 x)]) (fun _=>[]) (fun x=>∃i:Nat,x=i∧i≤k) (fun x=>k-x.toNat) hw hm ?_ ?_
 ·refine Cv.genAt [3] [] (Cv.fold ((List.range' 4 8)) 1 [] (by exact Nat.le_refl _) (by exact Nat.le_of_ble_eq_true rfl) (by rfl) (by cbv) ?_)
  intro js;refine⟨0,?_,js,rfl⟩
  exact⟨0,rfl,by omega⟩
 ·rintro x js ⟨i,hx,hi⟩;have h1:vw .u64 x=x:=by rw[qw];exact wrap_u64 (by omega) (by omega)
  obtain⟨p,hp⟩:∃p:Int,p=2^x.toNat:=⟨_,rfl⟩;have h2:vb .shl .i64 1 x=p:=by rw[qb,hp];exact kdR (by omega) (by omega)
  have hp2:p=2^i:=by rw[hp,hx,Int.toNat_natCast]
  obtain⟨x1,hx1⟩:∃x1:Int,x1=((i+1:Nat):Int):=⟨_,rfl⟩;have h3:vb .add .i64 x 1=x1:=by rw[qb,hx1,hx];exact ku (by omega) (by omega)
  have hx0:0≤x:=by omega
  by_cases h:i<k
  ·have hlt:vc .lss p ni=true:=by
    rw[qc,ko,hp2,hni2]
    exact_mod_cast Nat.pow_lt_pow_right (by decide) h
   have hmu:k-x1.toNat<k-x.toNat:=by omega
   cbv;rw[h1];refine⟨⟨hx0⟩,?_⟩
   rw[h2,ho,hlt];cbv;rw[h3];refine Cv.fold ((List.range' 4 8)) 1 [] (by exact Nat.le_refl _) (by exact Nat.le_of_ble_eq_true rfl) (by rfl) (by cbv) ?_
   intro js;refine⟨x1,?_,js,rfl⟩
   exact⟨⟨i+1,hx1,h⟩,hmu⟩
  ·obtain rfl:i=k:=by omega
   have hlt:vc .lss p ni=false:=by
    rw[qc,km,hp2,hni2];omega
   cbv;rw[h1];refine⟨⟨hx0⟩,?_⟩
   rw[h2,ho,hlt];cbv;exact⟨⟨x,hx,rfl⟩,trivial⟩
def qs (most:Int) (T:Tb):Prop:=T.n=0∨∃lg:Nat,T.n=2^lg∧lg≤12∧∀k,k<T.n→0≤T.a k∧T.a k≤most∧0≤T.b k∧T.b k≤12∧0≤T.c k∧T.c k+2^(T.b k).toNat≤T.n
theorem kl1 (n:Nat):((2:Int)^n).toNat=2^n:=by
 have:(2:Int)^n=((2^n:Nat):Int):=by push_cast;rfl
 rw[this,Int.toNat_natCast]
theorem kjN {cs:List Int} {log most:Int} (hR:jL cs log) (hm:(cs.length:Int)≤most+1):qs most (mkT cs log)∧(mkT cs log).n≠0:=by
 obtain⟨size,hs⟩:∃size:Int,(2:Int)^log.toNat=size:=⟨_,rfl⟩;have hn:(mkT cs log).n=2^log.toNat:=kl1 _;have hN:size=(((mkT cs log).n:Nat):Int):=by rw[hn,←hs];push_cast;rfl
 refine⟨.inr ⟨log.toNat,hn,by have:=hR.1;have:=hR.2.1;omega,fun k hk=>?_⟩,by rw[hn];exact Nat.ne_of_gt (Nat.pow_pos (by decide))⟩
 obtain⟨bb,b1,b2,b3,b4,b5⟩:=kkj hR hs hN hk;have ha:=kbq (l:=cs) size (by have:=hR.2.2.1;omega) k;have hlg:=hR.2.1;have e1:(mkT cs log).a k=qF cs size k:=by simp only[mkT,hs]
 have e2:(mkT cs log).b k=kbV cs log size (mkT cs log).n k:=by simp only[mkT,hs]
 have e3:(mkT cs log).c k=kbA cs log size (mkT cs log).n k:=by simp only[mkT,hs]
 rw[e1,e2,e3,b2,Int.toNat_natCast];refine⟨ha.1,by omega,by omega,by omega,b3,?_⟩
 rw[←hN];exact b4
theorem kpg {x most:Int} (h0:0≤x) (h1:x≤most):qs most (kjM x)∧(kjM x).n≠0:=
 ⟨.inr ⟨0,rfl,by decide,fun k _=>⟨h0,h1,Int.le_refl 0,(by show(0:Int)≤12;decide),Int.le_refl 0,by simp[kjM]⟩⟩,Nat.one_ne_zero⟩
theorem ka4 (b:List Int) (ms:Int):∀(f:Nat) (fl:Bool) (left:Int) (cs:List Int) (pos:Nat) (cs':List Int) (pos':Nat),(cs.length:Int)≤ms+1→(fl=true→(cs.length:Int)≤ms) →
  readS b ms f fl left cs pos=(0,cs',pos')→(cs'.length:Int)≤ms+1
 |0,fl,left,cs,pos,cs',pos',h1,h2,h=>by
  simp only[readS,Prod.mk.injEq] at h;obtain⟨_,rfl,rfl⟩:=h;exact h1
 | f+1,false,left,cs,pos,cs',pos',h1,h2,h=>by
  rw[readS] at h;split at h
  ·simp only[Prod.mk.injEq] at h;obtain⟨_,rfl,rfl⟩:=h;exact h1
  split at h
  ·simp at h
  rename_i hle;split at h
  ·simp at h
  rename_i v hv;split at h
  ·simp at h
  rename_i x p2 hx;have h3:((cs++[x-1]).length:Int)≤ms+1:=by rw[List.length_append];simp;omega
  split at h
  ·exact ka4 b ms f false _ _ _ cs' pos' h3 (fun e=>by cases e) h
  ·split at h
   ·simp at h
   ·exact ka4 b ms f true _ _ _ cs' pos' h3 (fun _=>by omega) h
 |f+1,true,left,cs,pos,cs',pos',h1,h2,h=>by
  rw[readS] at h;split at h
  ·simp at h
  rename_i n hn;split at h
  ·simp at h
  split at h
  ·exact ka4 b ms f true _ _ _ cs' pos' (by omega) (fun _=>by omega) h
  ·exact ka4 b ms f false _ _ _ cs' pos' (by omega) (fun e=>by cases e) h
theorem kl2 {b cs:List Int} {ml ms log used:Int} (h:j4 b ml ms=(cs,log,used,0)):(cs.length:Int)≤ms+1:=by
 unfold j4 at h;split at h
 ·simp at h
 rename_i hml;split at h
 ·simp at h
 rename_i x hx;split at h
 ·simp at h
 split at h
 ·rename_i hne;simp only[Prod.mk.injEq] at h;exact absurd h.2.2.2 hne
 rename_i he;obtain⟨⟨e,c1,p1⟩,hS⟩:∃r,readS b ms 600 false (2^(x+5).toNat) [] 4=r:=⟨_,rfl⟩;rw[hS] at h he;simp only[Prod.mk.injEq] at h;obtain⟨rfl,_⟩:=h;simp only[ne_eq,Decidable.not_not] at he;subst he;exact ka4 b ms 600 false _ [] 4 _ _ (by simp;omega) (fun e=>by cases e) hS
theorem kcl {lg most ah way used:Int} {cnt b:List Int} {T T':Tb} (hT:qs most T) (hc:jL cnt ah) (hcl:(cnt.length:Int)≤most+1) (hby:∀x∈b,isByte x) (h:qP lg most ah cnt way b T=(0,used,T')) :
  qs most T'∧T'.n≠0∧0≤used∧used≤b.length:=by
 unfold qP at h;split at h
 ·simp only[Prod.mk.injEq] at h;obtain⟨_,rfl,rfl⟩:=h;exact⟨(kjN hc hcl).1,(kjN hc hcl).2,by omega,by omega⟩
 split at h
 ·split at h
  ·simp at h
  split at h
  ·simp at h
  rename_i hb0 hm;have hx:isByte (b.getD 0 0):=by
   rw[List.getD_eq_getElem?_getD,List.getElem?_eq_getElem (by omega)];exact hby _ (List.getElem_mem _)
  simp only[Prod.mk.injEq] at h;obtain⟨_,rfl,rfl⟩:=h;have:=kpg (x:=b.getD 0 0) (most:=most) hx.1 (by omega);exact⟨this.1,this.2,by omega,by omega⟩
 split at h
 ·split at h
  ·simp at h
  split at h
  ·simp at h
  rename_i h10 hR;obtain⟨⟨cs,log,us,er⟩,hRR⟩:∃r,j4 b lg most=r:=⟨_,rfl⟩;rw[hRR] at h h10 hR;simp only[not_or,Decidable.not_not,ne_eq] at hR;obtain⟨rfl,hR⟩:=hR;simp only[Prod.mk.injEq] at h;obtain⟨_,rfl,rfl⟩:=h;obtain⟨_,h1,h2,_,_⟩:=kb1 hRR;have:=kjN hR (kl2 hRR);exact⟨this.1,this.2,h1,h2⟩
 split at h
 ·simp at h
 ·rename_i hn;simp only[Prod.mk.injEq] at h;obtain⟨_,rfl,rfl⟩:=h;exact⟨hT,hn,by omega,by omega⟩
def ofL (c:Int):Int×Int:=ofK 16 0 koI kkw c
def ofM (c:Int):Int×Int:=ofK 32 3 koJ kkx c
def ofB (c:Int):Int×Int:=(2^c.toNat,c)
theorem kgA {c:Int} (h:0≤c∧c≤35):0≤(ofL c).1∧(ofL c).1≤65536∧0≤(ofL c).2∧(ofL c).2≤16:=by
 have key:∀n:Fin 36,0≤(ofL ((n.val:Nat):Int)).1∧(ofL ((n.val:Nat):Int)).1≤65536∧0≤(ofL ((n.val:Nat):Int)).2∧(ofL ((n.val:Nat):Int)).2≤16:=by decide
 have:=key ⟨c.toNat,by omega⟩
 rwa [show((c.toNat:Nat):Int)=c by omega] at this
theorem kgB {c:Int} (h:0≤c∧c≤52):0≤(ofM c).1∧(ofM c).1≤65539∧0≤(ofM c).2∧(ofM c).2≤16:=by
 have key:∀n:Fin 53,0≤(ofM ((n.val:Nat):Int)).1∧(ofM ((n.val:Nat):Int)).1≤65539∧0≤(ofM ((n.val:Nat):Int)).2∧(ofM ((n.val:Nat):Int)).2≤16:=by decide
 have:=key ⟨c.toNat,by omega⟩
 rwa [show((c.toNat:Nat):Int)=c by omega] at this
theorem kgC {c:Int} (h:0≤c∧c≤31):0≤(ofB c).1∧(ofB c).1≤2147483648∧0≤(ofB c).2∧(ofB c).2≤31:=by
 have key:∀n:Fin 32,0≤(ofB ((n.val:Nat):Int)).1∧(ofB ((n.val:Nat):Int)).1≤2147483648∧0≤(ofB ((n.val:Nat):Int)).2∧(ofB ((n.val:Nat):Int)).2≤31:=by decide
 have:=key ⟨c.toNat,by omega⟩
 rwa [show((c.toNat:Nat):Int)=c by omega] at this
def kay (q:List Int) (TL TB TM:Tb):Nat→Int→Int→Int→Int→List (Int×Int×Int)→List (Int×Int×Int)×Int
 |0,_,_,_,p,ls=>(ls,p)
 | n+1,s0,s1,s2,p,ls=>
  if n=0 then(ls++[((ofL (TL.a s0.toNat)).1+rd q (p-(ofB (TB.a s1.toNat)).2-(ofM (TM.a s2.toNat)).2) (ofL (TL.a s0.toNat)).2.toNat,(ofM (TM.a s2.toNat)).1+rd q (p-(ofB (TB.a s1.toNat)).2) (ofM (TM.a s2.toNat)).2.toNat,
    (ofB (TB.a s1.toNat)).1+rd q p (ofB (TB.a s1.toNat)).2.toNat)],p-(ofB (TB.a s1.toNat)).2-(ofM (TM.a s2.toNat)).2-(ofL (TL.a s0.toNat)).2)
  else kay q TL TB TM n
   (TL.c s0.toNat+rd q (p-(ofB (TB.a s1.toNat)).2-(ofM (TM.a s2.toNat)).2-(ofL (TL.a s0.toNat)).2) (TL.b s0.toNat).toNat)
   (TB.c s1.toNat+rd q (p-(ofB (TB.a s1.toNat)).2-(ofM (TM.a s2.toNat)).2-(ofL (TL.a s0.toNat)).2-TL.b s0.toNat-TM.b s2.toNat) (TB.b s1.toNat).toNat)
   (TM.c s2.toNat+rd q (p-(ofB (TB.a s1.toNat)).2-(ofM (TM.a s2.toNat)).2-(ofL (TL.a s0.toNat)).2-TL.b s0.toNat) (TM.b s2.toNat).toNat)
   (p-(ofB (TB.a s1.toNat)).2-(ofM (TM.a s2.toNat)).2-(ofL (TL.a s0.toNat)).2-TL.b s0.toNat-TM.b s2.toNat-TB.b s1.toNat)
   (ls++[((ofL (TL.a s0.toNat)).1+rd q (p-(ofB (TB.a s1.toNat)).2-(ofM (TM.a s2.toNat)).2) (ofL (TL.a s0.toNat)).2.toNat,(ofM (TM.a s2.toNat)).1+rd q (p-(ofB (TB.a s1.toNat)).2) (ofM (TM.a s2.toNat)).2.toNat,
    (ofB (TB.a s1.toNat)).1+rd q p (ofB (TB.a s1.toNat)).2.toNat)])
def hdS (b:List Int):Int×Int×Nat:=
 if b.length=0 then(10,0,0)
 else if b.getD 0 0=255 then(if b.length<3 then(10,0,0) else(0,b.getD 1 0+b.getD 2 0*256+32512,3))
 else if 128≤b.getD 0 0 then(if b.length<2 then(10,0,0) else(0,(b.getD 0 0-128)*256+b.getD 1 0,2))
 else(0,b.getD 0 0,1)
def kfJ (q:List Int) (n:Nat) (TL TB TM:Tb):Int×List (Int×Int×Int)×Tb×Tb×Tb:=
 if q.getLastD 0=0 then(11,[],TL,TB,TM)
 else if (kay q TL TB TM n (rd q (jd q) (Nat.log2 TL.n)) (rd q (jd q-Nat.log2 TL.n) (Nat.log2 TB.n)) (rd q (jd q-Nat.log2 TL.n-Nat.log2 TB.n) (Nat.log2 TM.n)) (jd q-Nat.log2 TL.n-Nat.log2 TB.n-Nat.log2 TM.n) []).2≠0 then(11,[],TL,TB,TM)
 else(0,(kay q TL TB TM n (rd q (jd q) (Nat.log2 TL.n)) (rd q (jd q-Nat.log2 TL.n) (Nat.log2 TB.n)) (rd q (jd q-Nat.log2 TL.n-Nat.log2 TB.n) (Nat.log2 TM.n)) (jd q-Nat.log2 TL.n-Nat.log2 TB.n-Nat.log2 TM.n) []).1,TL,TB,TM)
def qj (b:List Int) (TL TB TM:Tb):Int×List (Int×Int×Int)×Tb×Tb×Tb:=
 if 131072<b.length then(3,[],TL,TB,TM)
 else match hdS b with
  | (e, n,at')=>if e≠0 then(e,[],TL,TB,TM)
   else if n=0 then(if at'<b.length then(11,[],TL,TB,TM) else(0,[],TL,TB,TM))
   else if b.length=at' then(10,[],TL,TB,TM)
   else if b.getD at' 0 % 4≠0 then(11,[],TL,TB,TM)
   else match qP 9 35 6 kdm (b.getD at' 0 / 64 % 4) (b.drop (at'+1)) TL with
    | (e0,u0,TL')=>if e0≠0 then(e0,[],TL,TB,TM)
     else match qP 8 31 5 kdW (b.getD at' 0 / 16 % 4) (b.drop (at'+1+u0.toNat)) TB with
      | (e1,u1,TB')=>if e1≠0 then(e1,[],TL,TB,TM)
       else match qP 9 52 6 cntM (b.getD at' 0 / 4 % 4) (b.drop (at'+1+u0.toNat+u1.toNat)) TM with
        |(e2,u2,TM')=>if e2≠0 then(e2,[],TL,TB,TM) else kfJ (b.drop (at'+1+u0.toNat+u1.toNat+u2.toNat)) n.toNat TL' TB' TM'
section
variable {b:List Int} {TL TB TM T0 T1 T2:Tb} {e n e0 e1 e2 u0 u1 u2:Int} {a:Nat}
theorem kl3 (hl:131072<b.length):(qj b TL TB TM).1=3:=by unfold qj;rw[if_pos hl]
theorem khk (hl:b.length≤131072) (h:hdS b=(e,n,a)) (he:e≠0):(qj b TL TB TM).1=e:=by
 unfold qj;rw[if_neg (by omega),h];simp only;rw[if_pos he]
theorem knI (hl:b.length≤131072) (h:hdS b=(0,0,a)):qj b TL TB TM=if a<b.length then(11,[],TL,TB,TM) else(0,[],TL,TB,TM):=by
 unfold qj;rw[if_neg (by omega),h];simp only;rw[if_neg (by decide),if_pos trivial]
theorem khl (hl:b.length≤131072) (h:hdS b=(0,n,a)) (hn:n≠0) (ha:b.length=a):(qj b TL TB TM).1=10:=by
 unfold qj;rw[if_neg (by omega),h];simp only;rw[if_neg (by decide),if_neg hn,if_pos ha]
theorem kdX (hl:b.length≤131072) (h:hdS b=(0,n,a)) (hn:n≠0) (ha:¬b.length=a) (hw:b.getD a 0 % 4≠0):(qj b TL TB TM).1=11:=by
 unfold qj;rw[if_neg (by omega),h];simp only;rw[if_neg (by decide),if_neg hn,if_neg ha,if_pos hw]
theorem kph (hl:b.length≤131072) (h:hdS b=(0,n,a)) (hn:n≠0) (ha:¬b.length=a) (hw:b.getD a 0 % 4=0) (h0:qP 9 35 6 kdm (b.getD a 0 / 64 % 4) (b.drop (a+1)) TL=(e0,u0,T0)) (he:e0≠0):(qj b TL TB TM).1=e0:=by
 unfold qj;rw[if_neg (by omega),h];simp only;rw[if_neg (by decide),if_neg hn,if_neg ha,if_neg (by omega),h0];simp only;rw[if_pos he]
theorem kpi (hl:b.length≤131072) (h:hdS b=(0,n,a)) (hn:n≠0) (ha:¬b.length=a) (hw:b.getD a 0 % 4=0) (h0:qP 9 35 6 kdm (b.getD a 0 / 64 % 4) (b.drop (a+1)) TL=(0,u0,T0))
  (h1:qP 8 31 5 kdW (b.getD a 0 / 16 % 4) (b.drop (a+1+u0.toNat)) TB=(e1,u1,T1)) (he:e1≠0):(qj b TL TB TM).1=e1:=by
 unfold qj;rw[if_neg (by omega),h];simp only;rw[if_neg (by decide),if_neg hn,if_neg ha,if_neg (by omega),h0];simp only;rw[if_neg (by decide),h1];simp only;rw[if_pos he]
theorem kpj (hl:b.length≤131072) (h:hdS b=(0,n,a)) (hn:n≠0) (ha:¬b.length=a) (hw:b.getD a 0 % 4=0) (h0:qP 9 35 6 kdm (b.getD a 0 / 64 % 4) (b.drop (a+1)) TL=(0,u0,T0))
  (h1:qP 8 31 5 kdW (b.getD a 0 / 16 % 4) (b.drop (a+1+u0.toNat)) TB=(0,u1,T1)) (h2:qP 9 52 6 cntM (b.getD a 0 / 4 % 4) (b.drop (a+1+u0.toNat+u1.toNat)) TM=(e2,u2,T2)) (he:e2≠0):(qj b TL TB TM).1=e2:=by
 unfold qj;rw[if_neg (by omega),h];simp only;rw[if_neg (by decide),if_neg hn,if_neg ha,if_neg (by omega),h0];simp only;rw[if_neg (by decide),h1];simp only;rw[if_neg (by decide),h2];simp only;rw[if_pos he]
theorem kqB (hl:b.length≤131072) (h:hdS b=(0,n,a)) (hn:n≠0) (ha:¬b.length=a) (hw:b.getD a 0 % 4=0) (h0:qP 9 35 6 kdm (b.getD a 0 / 64 % 4) (b.drop (a+1)) TL=(0,u0,T0))
  (h1:qP 8 31 5 kdW (b.getD a 0 / 16 % 4) (b.drop (a+1+u0.toNat)) TB=(0,u1,T1)) (h2:qP 9 52 6 cntM (b.getD a 0 / 4 % 4) (b.drop (a+1+u0.toNat+u1.toNat)) TM=(0,u2,T2)) :
  qj b TL TB TM=kfJ (b.drop (a+1+u0.toNat+u1.toNat+u2.toNat)) n.toNat T0 T1 T2:=by
 unfold qj;rw[if_neg (by omega),h];simp only;rw[if_neg (by decide),if_neg hn,if_neg ha,if_neg (by omega),h0];simp only;rw[if_neg (by decide),h1];simp only;rw[if_neg (by decide),h2];simp only;rw[if_neg (by decide)]
end
theorem krF {b:List Int} (h:b.length=0):hdS b=(10,0,0):=by unfold hdS;rw[if_pos h]
theorem kqC {b:List Int} (h:b.length≠0) (hx:b.getD 0 0=255) (h3:b.length<3):hdS b=(10,0,0):=by unfold hdS;rw[if_neg h,if_pos hx,if_pos h3]
theorem krG {b:List Int} (hx:b.getD 0 0=255) (h3:¬b.length<3):hdS b=(0,b.getD 1 0+b.getD 2 0*256+32512,3):=by unfold hdS;rw[if_neg (by omega),if_pos hx,if_neg h3]
theorem kqD {b:List Int} (h:b.length≠0) (hx:¬b.getD 0 0=255) (hx2:128≤b.getD 0 0) (h3:b.length<2):hdS b=(10,0,0):=by unfold hdS;rw[if_neg h,if_neg hx,if_pos hx2,if_pos h3]
theorem krH {b:List Int} (hx:¬b.getD 0 0=255) (hx2:128≤b.getD 0 0) (h3:¬b.length<2):hdS b=(0,(b.getD 0 0-128)*256+b.getD 1 0,2):=by unfold hdS;rw[if_neg (by omega),if_neg hx,if_pos hx2,if_neg h3]
theorem krI {b:List Int} (h:b.length≠0) (hx:¬b.getD 0 0=255) (hx2:¬128≤b.getD 0 0):hdS b=(0,b.getD 0 0,1):=by unfold hdS;rw[if_neg h,if_neg hx,if_neg hx2]
theorem wrap64 {x:Int} (h:0≤x∧x≤1000000000000):IntKind.i64.wrap x=x:=wrap_i64 (by omega) (by omega)
theorem kgD {x y:Int} (h:0≤x∧x≤1000000000000) (h2:0≤y∧y≤1000000000000):bV .add .i64 x y=x+y:=ku (by omega) (by omega)
structure kpk (N:Nat) (A B C:Nat→Int) (most t:Int) (k:Nat) (a bb c:Int):Prop where
 tk:t=k
 lt:k<N
 ir:0≤t∧t<(N:Int)
 ar:0≤a∧a≤most
 aw:0≤a∧a≤1000000000000
 br:0≤bb∧bb≤12
 bw:0≤bb∧bb≤1000000000000
 cw:0≤c∧c≤1000000000000
 cr:0≤c∧c≤4096
 sum:c+2^bb.toNat≤N
 ea:A k=a
 eb:B k=bb
 ec:C k=c
theorem kqE {N:Nat} {A B C:Nat→Int} {most t:Int} (hcell:∀k,k<N→0≤A k∧A k≤most∧0≤B k∧B k≤12∧0≤C k∧C k+2^(B k).toNat≤N) (hN:N≤4096) (hmost:most≤255) (ht:0≤t∧t<N) :
  kpk N A B C most t t.toNat (A t.toNat) (B t.toNat) (C t.toNat):=by
 have hkN:t.toNat<N:=by omega
 obtain⟨h1,h2,h3,h4,h5,h6⟩:=hcell t.toNat hkN;have hp:(0:Int)<2^(B t.toNat).toNat:=Int.pow_pos (by decide);exact⟨by omega,hkN,ht,⟨h1,h2⟩,by omega,⟨h3,h4⟩,by omega,by omega,by omega,h6,rfl,rfl,rfl⟩
structure kjO (q:List Int) (p f n x v p2:Int):Prop where
 nk:n=(n.toNat:Int)
 k40:n.toNat≤40
 xr:x=rd q p n.toNat
 xw:0≤x∧x≤1000000000000
 fw:0≤f∧f≤1000000000000
 p2:p2=p-n
 v:v=f+x
 pr : -1000000000≤p
 pr2:p≤8*(q.length:Int)
theorem kl4 {q:List Int} {p f n:Int} (hf:0≤f∧f≤2147483648) (hn:0≤n∧n≤31) (h1 : -1000000000≤p) (h2:p≤8*(q.length:Int)):kjO q p f n (rd q p n.toNat) (f+rd q p n.toNat) (p-n):=by
 have h3:=jg q p n.toNat;have h4:(2:Int)^n.toNat≤2^31:=by exact_mod_cast Nat.pow_le_pow_right (by decide) (by omega:n.toNat≤31)
 have h5:(2:Int)^31=2147483648:=by decide
 exact⟨by omega,by omega,rfl,by omega,by omega,rfl,rfl,h1,h2⟩
theorem kjP {q:List Int} {TL TB TM:Tb} {m:Nat} {s0 s1 s2 p aL aM aB fL nL fM nM fB nB xL xM xB vL vM vB pa pb pc y0 y1 y2 u0 u1 u2 pd pe pf:Int} {ls ls1 LS:List (Int×Int×Int)} {Q:Int} (hm:1≤m)
  (haL:aL=TL.a s0.toNat) (haM:aM=TM.a s2.toNat) (haB:aB=TB.a s1.toNat) (hfL:fL=(ofL aL).1) (hnL:nL=(ofL aL).2) (hfM:fM=(ofM aM).1) (hnM:nM=(ofM aM).2) (hfB:fB=(ofB aB).1) (hnB:nB=(ofB aB).2)
  (hpa:pa=p-nB) (hpb:pb=pa-nM) (hpc:pc=pb-nL) (hxB:xB=rd q p nB.toNat) (hxM:xM=rd q pa nM.toNat) (hxL:xL=rd q pb nL.toNat) (hvL:vL=fL+xL) (hvM:vM=fM+xM) (hvB:vB=fB+xB) (hls:ls1=ls++[(vL,vM,vB)])
  (hy0:y0=rd q pc (TL.b s0.toNat).toNat) (hu0:u0=TL.c s0.toNat+y0) (hpd:pd=pc-TL.b s0.toNat) (hy2:y2=rd q pd (TM.b s2.toNat).toNat) (hu2:u2=TM.c s2.toNat+y2) (hpe:pe=pd-TM.b s2.toNat)
  (hy1:y1=rd q pe (TB.b s1.toNat).toNat) (hu1:u1=TB.c s1.toNat+y1) (hpf:pf=pe-TB.b s1.toNat) (h:kay q TL TB TM m s0 s1 s2 p ls=(LS,Q)) :
  if m=1 then LS=ls1∧Q=pc else kay q TL TB TM (m-1) u0 u1 u2 pf ls1=(LS,Q):=by
 obtain⟨k,rfl⟩:∃k,m=k+1:=⟨m-1,by omega⟩;rw[kay] at h;subst hpf hu1 hy1 hpe hu2 hy2 hpd hu0 hy0 hls hvB hvM hvL hxL hxM hxB hpc hpb hpa hnB hfB hnM hfM hnL hfL haB haM haL;by_cases hk:k=0
 ·subst hk;rw[if_pos rfl] at h;rw[if_pos rfl];simp only[Prod.mk.injEq] at h;exact⟨h.1.symm,h.2.symm⟩
 ·rw[if_neg hk] at h;rw[if_neg (by omega)];exact h
theorem kiQ {G:Prop} {q:List Int} {N0 N1 N2 m:Nat} {A0 B0 C0 A1 B1 C1 A2 B2 C2:Nat→Int} {nI t0 t1 t2 p Q:Int} {ls LS:List (Int×Int×Int)}
  (hcell0:∀k,k<N0→0≤A0 k∧A0 k≤35∧0≤B0 k∧B0 k≤12∧0≤C0 k∧C0 k+2^(B0 k).toNat≤N0) (hcell1:∀k,k<N1→0≤A1 k∧A1 k≤31∧0≤B1 k∧B1 k≤12∧0≤C1 k∧C1 k+2^(B1 k).toNat≤N1)
  (hcell2:∀k,k<N2→0≤A2 k∧A2 k≤52∧0≤B2 k∧B2 k≤12∧0≤C2 k∧C2 k+2^(B2 k).toNat≤N2) (hN0:N0≤4096) (hN1:N1≤4096) (hN2:N2≤4096)
  (hnI:nI=m) (hm:1≤m) (hR:kay q ⟨N0,A0,B0,C0⟩ ⟨N1,A1,B1,C1⟩ ⟨N2,A2,B2,C2⟩ m t0 t1 t2 p ls=(LS,Q)) (hlm:ls.length+m≤100000) (ht0:0≤t0∧t0<N0) (ht1:0≤t1∧t1<N1) (ht2:0≤t2∧t2<N2)
  (hp1 : -1000*(100001-(m:Int))≤p) (hp2:p≤8*(q.length:Int))
  (h:∀(kL kM kB:Nat) (aL aM aB xbL xbM xbB xcL xcM xcB fL nL fM nM fB nB xL xM xB vL vM vB pa pb pc y0 y1 y2 u0 u1 u2 pd pe pf n1:Int) (ls1:List (Int×Int×Int)) (f1 g1 h1:Nat→Int),
   kpk N0 A0 B0 C0 35 t0 kL aL xbL xcL→kpk N1 A1 B1 C1 31 t1 kB aB xbB xcB→kpk N2 A2 B2 C2 52 t2 kM aM xbM xcM→(fL,nL)=ofL aL→(fM,nM)=ofM aM→(fB,nB)=ofB aB →
   kjO q p fB nB xB vB pa→kjO q pa fM nM xM vM pb→kjO q pb fL nL xL vL pc→kjO q pc xcL xbL y0 u0 pd→kjO q pd xcM xbM y2 u2 pe→kjO q pe xcB xbB y1 u1 pf→n1=nI-1 →
   f1=qm (fun i=>(ls.getD i (0,0,0)).1) ls.length vL→g1=qm (fun i=>(ls.getD i (0,0,0)).2.1) ls.length vM→h1=qm (fun i=>(ls.getD i (0,0,0)).2.2) ls.length vB →
   (f1=(fun i=>(ls1.getD i (0,0,0)).1)∧g1=(fun i=>(ls1.getD i (0,0,0)).2.1)∧h1=(fun i=>(ls1.getD i (0,0,0)).2.2)∧ls.length+1=ls1.length) →
   (m=1→n1=0∧LS=ls1∧Q=pc) →
   (m≠1→n1≠0∧n1.toNat<nI.toNat∧n1=((m-1:Nat):Int)∧1≤m-1∧kay q ⟨N0,A0,B0,C0⟩ ⟨N1,A1,B1,C1⟩ ⟨N2,A2,B2,C2⟩ (m-1) u0 u1 u2 pf ls1=(LS,Q)∧ls1.length+(m-1)≤100000 ∧
    (0≤u0∧u0<N0)∧(0≤u1∧u1<N1)∧(0≤u2∧u2<N2) ∧ -1000*(100001-((m-1:Nat):Int))≤pf∧pf≤8*(q.length:Int))→G):G:=by
 have S0:=kqE hcell0 hN0 (by decide) ht0;have S1:=kqE hcell1 hN1 (by decide) ht1;have S2:=kqE hcell2 hN2 (by decide) ht2;have rL:=kgA S0.ar;have rM:=kgB S2.ar;have rB:=kgC S1.ar;have b0:=S0.br;have b1:=S1.br;have b2:=S2.br;have c0:=S0.sum;have c1:=S1.sum;have c2:=S2.sum;have cw0:=S0.cr;have cw1:=S1.cr;have cw2:=S2.cr;have VB:=kl4 (q:=q) (p:=p) (f:=(ofB (A1 t1.toNat)).1) (n:=(ofB (A1 t1.toNat)).2) (by omega) (by omega) (by omega) (by omega);have VM:=kl4 (q:=q) (p:=p-(ofB (A1 t1.toNat)).2) (f:=(ofM (A2 t2.toNat)).1) (n:=(ofM (A2 t2.toNat)).2) (by omega) (by omega) (by omega) (by omega);have VL:=kl4 (q:=q) (p:=p-(ofB (A1 t1.toNat)).2-(ofM (A2 t2.toNat)).2) (f:=(ofL (A0 t0.toNat)).1) (n:=(ofL (A0 t0.toNat)).2) (by omega) (by omega) (by omega) (by omega);have Y0:=kl4 (q:=q) (p:=p-(ofB (A1 t1.toNat)).2-(ofM (A2 t2.toNat)).2-(ofL (A0 t0.toNat)).2) (f:=C0 t0.toNat) (n:=B0 t0.toNat) (by omega) (by omega) (by omega) (by omega);have Y2:=kl4 (q:=q) (p:=p-(ofB (A1 t1.toNat)).2-(ofM (A2 t2.toNat)).2-(ofL (A0 t0.toNat)).2-B0 t0.toNat) (f:=C2 t2.toNat) (n:=B2 t2.toNat) (by omega) (by omega) (by omega) (by omega);have Y1:=kl4 (q:=q) (p:=p-(ofB (A1 t1.toNat)).2-(ofM (A2 t2.toNat)).2-(ofL (A0 t0.toNat)).2-B0 t0.toNat-B2 t2.toNat) (f:=C1 t1.toNat) (n:=B1 t1.toNat) (by omega) (by omega) (by omega) (by omega);have hstep:=kjP hm (TL:=⟨N0,A0,B0,C0⟩) (TB:=⟨N1,A1,B1,C1⟩) (TM:=⟨N2,A2,B2,C2⟩) rfl rfl rfl rfl rfl rfl rfl rfl rfl rfl rfl rfl rfl rfl rfl rfl rfl rfl rfl rfl rfl rfl rfl rfl rfl rfl rfl rfl hR;have e0:=jg q (p-(ofB (A1 t1.toNat)).2-(ofM (A2 t2.toNat)).2-(ofL (A0 t0.toNat)).2) (B0 t0.toNat).toNat;have e2:=jg q (p-(ofB (A1 t1.toNat)).2-(ofM (A2 t2.toNat)).2-(ofL (A0 t0.toNat)).2-B0 t0.toNat) (B2 t2.toNat).toNat;have e1:=jg q (p-(ofB (A1 t1.toNat)).2-(ofM (A2 t2.toNat)).2-(ofL (A0 t0.toNat)).2-B0 t0.toNat-B2 t2.toNat) (B1 t1.toNat).toNat;have hupd:∀(proj:Int×Int×Int→Int) (r:Int×Int×Int) (v:Int),proj r=v→qm (fun i=>proj (ls.getD i (0,0,0))) ls.length v=fun i=>proj ((ls++[r]).getD i (0,0,0)):=by
  intro proj r v hv;funext i
  rw[je];rcases Nat.lt_trichotomy i ls.length with hi|hi|hi
  ·rw[if_neg (by omega),List.getD_eq_getElem?_getD,List.getD_eq_getElem?_getD,List.getElem?_append_left hi]
  ·subst hi;rw[if_pos rfl,List.getD_eq_getElem?_getD,List.getElem?_append_right (Nat.le_refl _)];simp[hv]
  ·rw[if_neg (by omega),List.getD_eq_getElem?_getD,List.getD_eq_getElem?_getD,List.getElem?_eq_none (by omega),List.getElem?_eq_none (by simp;omega)]
 refine h _ _ _ _ _ _ _ _ _ _ _ _ _ _ _ _ _ _ _ _ _ _ _ _ _ _ _ _ _ _ _ _ _ _ _ _ _ _ _ _ _ S0 S1 S2 rfl rfl rfl VB VM VL Y0 Y2 Y1 rfl rfl rfl rfl ⟨hupd (·.1) ((ofL (A0 t0.toNat)).1+rd q (p-(ofB (A1 t1.toNat)).2-(ofM (A2 t2.toNat)).2) (ofL (A0 t0.toNat)).2.toNat,(ofM (A2 t2.toNat)).1+rd q (p-(ofB (A1 t1.toNat)).2) (ofM (A2 t2.toNat)).2.toNat,(ofB (A1 t1.toNat)).1+rd q p (ofB (A1 t1.toNat)).2.toNat) _ rfl,hupd (·.2.1) ((ofL (A0 t0.toNat)).1+rd q (p-(ofB (A1 t1.toNat)).2-(ofM (A2 t2.toNat)).2) (ofL (A0 t0.toNat)).2.toNat,(ofM (A2 t2.toNat)).1+rd q (p-(ofB (A1 t1.toNat)).2) (ofM (A2 t2.toNat)).2.toNat,(ofB (A1 t1.toNat)).1+rd q p (ofB (A1 t1.toNat)).2.toNat) _ rfl,hupd (·.2.2) ((ofL (A0 t0.toNat)).1+rd q (p-(ofB (A1 t1.toNat)).2-(ofM (A2 t2.toNat)).2) (ofL (A0 t0.toNat)).2.toNat,(ofM (A2 t2.toNat)).1+rd q (p-(ofB (A1 t1.toNat)).2) (ofM (A2 t2.toNat)).2.toNat,(ofB (A1 t1.toNat)).1+rd q p (ofB (A1 t1.toNat)).2.toNat) _ rfl,?_⟩ (fun h1=>?_) (fun h1=>?_)
 ·simp
 ·rw[if_pos h1] at hstep;exact⟨by omega,hstep.1,hstep.2⟩
 ·rw[if_neg h1] at hstep;exact⟨by omega,by omega,by omega,by omega,hstep,by simp;omega,by omega,by omega,by omega,by omega,by omega⟩
theorem knJ (c f n:Int) (hc:0≤c∧c≤31) (e:(f,n)=ofB c):Con Try.prog 64 [.int .i64 c] [] (fun v H R=>v=.tup [.int .i64 f,.int .i64 n]∧H=[]∧R=[]):=by
 simp only[ofB,Prod.mk.injEq] at e;obtain⟨rfl,rfl⟩:=e;exact koK _ (by omega)
theorem knK (c f n:Int) (gL bL:List Int) (hg:gL=koI) (hb:bL=kkw) (hc:0≤c∧c≤35) (e:(f,n)=ofL c) :
  Con Try.prog 90 [.int .i64 c,.ptr 0 .z 1 0,.ptr 1 .z 1 0,.ptr 2 .z 1 0,.ptr 3 .z 1 0] [.one 3 [.int .i64 16],.one 3 [.int .i64 0],.ints 173 .i64 gL,.one 63 [.slice 4 .z 1 20 20],.ints 3 .i64 bL]
   (fun v H R=>v=.tup [.int .i64 f,.int .i64 n]∧H=[.one 3 [.int .i64 16],.one 3 [.int .i64 0],.ints 173 .i64 gL,.one 63 [.slice 4 .z 1 20 20],.ints 3 .i64 bL]∧R=[]):=by
 have h:=knG 16 0 c gL bL 20 20 (by rw[hg];rfl) (by rw[hb];rfl) (by decide) hc.1 (by decide) (by omega) (by decide) (by decide);rw[show ofK 16 0 gL bL c=(f,n) by rw[e,hg,hb];rfl] at h;exact h
theorem knL (c f n:Int) (gM bM:List Int) (hg:gM=koJ) (hb:bM=kkx) (hc:0≤c∧c≤52) (e:(f,n)=ofM c) :
  Con Try.prog 90 [.int .i64 c,.ptr 0 .z 1 0,.ptr 1 .z 1 0,.ptr 2 .z 1 0,.ptr 3 .z 1 0] [.one 3 [.int .i64 32],.one 3 [.int .i64 3],.ints 173 .i64 gM,.one 63 [.slice 4 .z 1 21 21],.ints 3 .i64 bM]
   (fun v H R=>v=.tup [.int .i64 f,.int .i64 n]∧H=[.one 3 [.int .i64 32],.one 3 [.int .i64 3],.ints 173 .i64 gM,.one 63 [.slice 4 .z 1 21 21],.ints 3 .i64 bM]∧R=[]):=by
 have h:=knG 32 3 c gM bM 21 21 (by rw[hg];rfl) (by rw[hb];rfl) (by decide) hc.1 (by decide) (by omega) (by decide) (by decide);rw[show ofK 32 3 gM bM c=(f,n) by rw[e,hg,hb];rfl] at h;exact h
theorem kl5 {q:List Int} {n:Nat} {TL TB TM:Tb} (h:q.getLastD 0=0):(kfJ q n TL TB TM).1=11:=by unfold kfJ;rw[if_pos h]
theorem kl6 {q:List Int} {n:Nat} {TL TB TM:Tb} {p0 p1 p2 p3 s0 s1 s2 l0 l1 l2 Q:Int} {g0 g1 g2:Nat} {LS:List (Int×Int×Int)} (h:¬q.getLastD 0=0) (hp0:p0=jd q) (hg0:Nat.log2 TL.n=g0) (hg1:Nat.log2 TB.n=g1) (hg2:Nat.log2 TM.n=g2)
  (hl0:l0=g0) (hl1:l1=g1) (hl2:l2=g2) (hs0:s0=rd q p0 g0) (hp1:p1=p0-l0) (hs1:s1=rd q p1 g1) (hp2:p2=p1-l1) (hs2:s2=rd q p2 g2) (hp3:p3=p2-l2) (hR:kay q TL TB TM n s0 s1 s2 p3 []=(LS,Q)) :
  (Q≠0→(kfJ q n TL TB TM).1=11)∧(Q=0→kfJ q n TL TB TM=(0,LS,TL,TB,TM)):=by
 subst hp3 hs2 hp2 hs1 hp1 hs0 hl2 hl1 hl0 hg2 hg1 hg0 hp0;unfold kfJ;rw[if_neg h,hR];exact⟨fun hq=>by rw[if_pos hq],fun hq=>by rw[if_neg (by simpa using hq)]⟩
theorem ksG {A B C D:Type} {Goal:Prop} (G Fc:A→B→C→D→Prop) (hm:(∀a b c d,Fc a b c d→G a b c d)→Goal) (hk:∀a b c d,Fc a b c d→G a b c d):Goal:=hm hk
theorem j5 {b:List Int} (hby:∀x∈b,isByte x) (i:Nat):0≤b.getD i 0∧b.getD i 0<256:=by
 rcases kbX (l:=b) i with h|h
 ·exact hby _ h
 ·omega
theorem kky {x:Int} {n:Nat} (h0:0≤x) (hn:n≤32) (h1:x≤1000000000):bV .shl .i64 x n=x*2^n:=by
 show IntKind.i64.wrap (x*2^(min (n:Int).toNat 64))=_
 rw[Int.toNat_natCast,Nat.min_eq_left (by omega)];have hp:(2:Int)^n≤2^32:=by exact_mod_cast Nat.pow_le_pow_right (by decide) hn
 have hp0:(0:Int)<2^n:=Int.pow_pos (by decide);have h2:x*2^n≤1000000000*2^32:=Int.mul_le_mul h1 hp (by omega) (by omega);have h3:0≤x*2^n:=Int.mul_nonneg h0 (by omega);have e:(2:Int)^32=4294967296:=by decide
 exact wrap_i64 (by omega) (by omega)
theorem ka5 (b:List Int) (u cap:Nat) (hu:u≤b.length) (hc:b.length≤cap):qp (if cap=u then 0 else 0+u) (b.drop u) b:=by
 refine⟨?_,fun i hi=>?_⟩
 ·rw[List.length_drop];split<;>omega
 ·rw[List.length_drop] at hi;rw[if_neg (by omega)];rw[List.getD_eq_getElem?_getD,List.getD_eq_getElem?_getD,List.getElem?_drop,Nat.zero_add]
theorem renL3 (ρ:List (Nat×Ix)) (n:Nat) (k1 k2 k3:IntKind) (a b c:Int):renL ρ n [.int k1 a,.int k2 b,.int k3 c]=[.int k1 a,.int k2 b,.int k3 c]:=rfl
theorem knM {A B:Prop} (G:Prop) (h1:G→A) (h2:G→B) (h:G):A∧B:=⟨h1 h,h2 h⟩
theorem kqF (PT:SV→List SB→List Nat→Prop) (b:List Int) (cap n0 n1 n2 c0 c1 c2 k0 k1 k2:Nat) (a0 b0 d0 a1 b1 d1 a2 b2 d2:Nat→Int) (hby:∀x∈b,isByte x) (hcap:b.length≤cap)
  (hT0:qs 35 ⟨n0,a0,b0,d0⟩) (hT1:qs 31 ⟨n1,a1,b1,d1⟩) (hT2:qs 52 ⟨n2,a2,b2,d2⟩)
  (hE:∀e:Int,(qj b ⟨n0,a0,b0,d0⟩ ⟨n1,a1,b1,d1⟩ ⟨n2,a2,b2,d2⟩).1=e→e≠0→∀(M0 M1 M2 j0 j1 j2:Nat) (x0 y0 z0 x1 y1 z1 x2 y2 z2:Nat→Int),PT (.tup [.val (.slice none 0 0),.agg [.val (.slice none 0 0),.val (.slice none 0 0),.val (.slice none 0 0)],.int .i64 e]) [.ro .u8 b,.bufA 79 3 M0 (fun m=>[.int .u8 (x0 m),.int .u8 (y0 m),.int .u16 (z0 m)]) j0,.bufA 79 3 M1 (fun m=>[.int .u8 (x1 m),.int .u8 (y1 m),.int .u16 (z1 m)]) j1,.bufA 79 3 M2 (fun m=>[.int .u8 (x2 m),.int .u8 (y2 m),.int .u16 (z2 m)]) j2] [1,2,3])
  (hN:qj b ⟨n0,a0,b0,d0⟩ ⟨n1,a1,b1,d1⟩ ⟨n2,a2,b2,d2⟩=(0,[],⟨n0,a0,b0,d0⟩,⟨n1,a1,b1,d1⟩,⟨n2,a2,b2,d2⟩)→PT (.tup [.val (.slice none 0 0),.agg [.slice 1 .z 3 n0 c0,.slice 2 .z 3 n1 c1,.slice 3 .z 3 n2 c2],.int .i64 0]) [.ro .u8 b,.bufA 79 3 n0 (fun m=>[.int .u8 (a0 m),.int .u8 (b0 m),.int .u16 (d0 m)]) k0,.bufA 79 3 n1 (fun m=>[.int .u8 (a1 m),.int .u8 (b1 m),.int .u16 (d1 m)]) k1,.bufA 79 3 n2 (fun m=>[.int .u8 (a2 m),.int .u8 (b2 m),.int .u16 (d2 m)]) k2] [1,2,3])
  (hG:∀(LS:List (Int×Int×Int)) (N0 N1 N2:Nat) (A0 B0 C0 A1 B1 C1 A2 B2 C2:Nat→Int),qj b ⟨n0,a0,b0,d0⟩ ⟨n1,a1,b1,d1⟩ ⟨n2,a2,b2,d2⟩=(0,LS,⟨N0,A0,B0,C0⟩,⟨N1,A1,B1,C1⟩,⟨N2,A2,B2,C2⟩) →
   ∀ (f g h:Nat→Int) (ll cl kl m0 m1 m2 j0 j1 j2:Nat),ll=LS.length→(f=fun m=>(LS.getD m (0,0,0)).1)→(g=fun m=>(LS.getD m (0,0,0)).2.1)→(h=fun m=>(LS.getD m (0,0,0)).2.2) →
    PT (.tup [.slice 4 .z 3 ll cl,.agg [.slice 1 .z 3 N0 m0,.slice 2 .z 3 N1 m1,.slice 3 .z 3 N2 m2],.int .i64 0])
     [.ro .u8 b,.bufA 79 3 N0 (fun m=>[.int .u8 (A0 m),.int .u8 (B0 m),.int .u16 (C0 m)]) j0,.bufA 79 3 N1 (fun m=>[.int .u8 (A1 m),.int .u8 (B1 m),.int .u16 (C1 m)]) j1,.bufA 79 3 N2 (fun m=>[.int .u8 (A2 m),.int .u8 (B2 m),.int .u16 (C2 m)]) j2,.bufA 24 3 ll (fun m=>[.int .i64 (f m),.int .i64 (g m),.int .i64 (h m)]) kl] [1,2,3]) :
  Con Try.prog 12 [.slice 0 .z 1 b.length cap,.agg [.slice 1 .z 3 n0 c0,.slice 2 .z 3 n1 c1,.slice 3 .z 3 n2 c2]] [.ro .u8 b,.bufA 79 3 n0 (fun m=>[.int .u8 (a0 m),.int .u8 (b0 m),.int .u16 (d0 m)]) k0,.bufA 79 3 n1 (fun m=>[.int .u8 (a1 m),.int .u8 (b1 m),.int .u16 (d1 m)]) k1,.bufA 79 3 n2 (fun m=>[.int .u8 (a2 m),.int .u8 (b2 m),.int .u16 (d2 m)]) k2] PT:=by
 obtain⟨SR,hSR⟩:∃x,x=qj b ⟨n0,a0,b0,d0⟩ ⟨n1,a1,b1,d1⟩ ⟨n2,a2,b2,d2⟩:=⟨_,rfl⟩;rw[←hSR] at hE hN hG;obtain⟨cL,hcL⟩:∃x,x=kdm:=⟨_,rfl⟩;obtain⟨cB,hcB⟩:∃x,x=kdW:=⟨_,rfl⟩;obtain⟨cM,hcM⟩:∃x,x=cntM:=⟨_,rfl⟩;obtain⟨bL,hbL⟩:∃x,x=kkw:=⟨_,rfl⟩;obtain⟨bM,hbM⟩:∃x,x=kkx:=⟨_,rfl⟩;obtain⟨gL,hgL⟩:∃x,x=koI:=⟨_,rfl⟩;obtain⟨gM,hgM⟩:∃x,x=koJ:=⟨_,rfl⟩;have hk:=kl0 cL cB cM bL bM gL gM hcL hcB hcM hbL hbM hgL hgM;have f24:=kqU;have f60:=kr4;have f62:=kr5;have f63:=kr6;have htab0:=fun q c1 c2 c3 c4=>kpc cL cB cM bL bM gL gM q c1 c2 c3 c4
 have htab1:=fun q c1 c2 c3 c4=>kpd cL cB cM bL bM gL gM q c1 c2 c3 c4
 have htab2:=fun q c1 c2 c3 c4=>kpe cL cB cM bL bM gL gM q c1 c2 c3 c4
 have hnewb:=fun q c=>kg7 q c
 have hnewg:=fun q c=>kft q c
 have hlog:=fun k n c=>kpf k n c
 have hbits:=fun q c=>kfr q c
 have hleft:=fun q l c=>kfs q l c
 have hofL:=fun c f n=>knK c f n gL bL hgL hbL
 have hofM:=fun c f n=>knL c f n gM bM hgM hbM
 have hofB:=fun c f n=>knJ c f n
 have f37:=kqV;obtain⟨x0,hx0⟩:∃x,x=b.getD 0 0:=⟨_,rfl⟩;obtain⟨x1,hx1⟩:∃x,x=b.getD 1 0:=⟨_,rfl⟩;obtain⟨x2,hx2⟩:∃x,x=b.getD 2 0:=⟨_,rfl⟩;have hx0r:=j5 hby 0;have hx1r:=j5 hby 1;have hx2r:=j5 hby 2;rw[←hx0] at hx0r;rw[←hx1] at hx1r;rw[←hx2] at hx2r;obtain⟨bl,hbl⟩:∃x,x=b.length:=⟨_,rfl⟩;obtain⟨bi,hbi⟩:∃x:Int,x=bl:=⟨_,rfl⟩;refine kf (kD (kg (kc kj krP ?_)))
 intro vb vc vw vtoN vofN vaddN vsubN _ _ vcutN vgd vst vln vrep _ _ _ _ _ _ _ hw qb qc qw qtoN qofN qaddN qsubN _ _ qcutN qgd qst qln qrep _ _ _ _ _ _ _;have hm:=kj;generalize Try.prog=P at *;have ho:vofN bl=bi:=by simp only[qofN];exact hbi.symm
 have hln:vln b=bl:=by simp only[qln];exact hbl.symm
 have hadd0:∀i,vaddN 0 i=i:=fun i=>by simp only[qaddN,Nat.zero_add]
 have hvg:∀i,vgd b i=b.getD i 0:=fun i=>by simp only[qgd]
 rw[←hbl] at hcap ⊢
 by_cases hlg:131072<bl
 ·have h131:vc .gtr bi 131072=true:=by rw[qc,gtr_true];omega
  have hfe:SR.1=3:=by rw[hSR];exact kl3 (by omega)
  cbv;rw[ho,h131];cbv;(repeat refine And.intro (fun _=>rfl) ?_);refine⟨[1,2,3],[0,1,2,3],.tup [.val (.slice none 0 0),.agg [.val (.slice none 0 0),.val (.slice none 0 0),.val (.slice none 0 0)],.lit .i64 3],[.ro .u8 b,.bufA 79 3 n0 (fun m=>[.int .u8 (a0 m),.int .u8 (b0 m),.int .u16 (d0 m)]) k0,.bufA 79 3 n1 (fun m=>[.int .u8 (a1 m),.int .u8 (b1 m),.int .u16 (d1 m)]) k1,.bufA 79 3 n2 (fun m=>[.int .u8 (a2 m),.int .u8 (b2 m),.int .u16 (d2 m)]) k2],rfl,rfl,rfl,rfl,rfl,?_,?_⟩
  ·exact⟨rfl,rfl,fun _=>rfl,rfl,fun _=>rfl,rfl,fun _=>rfl,trivial⟩
  ·exact hE 3 hfe (by decide) _ _ _ _ _ _ _ _ _ _ _ _ _ _ _
 have hlen:b.length≤131072:=by omega
 refine' ksG _ (fun(js:Nat→Value) (n at' ways:Int)=>hdS b=(0,n,(at'-1).toNat)∧1≤n∧n≤100000∧2≤at'∧at'≤4∧at'≤bi∧ways=b.getD (at'-1).toNat 0∧ways % 4=0) (fun key=>?_) ?_
 rotate_left
 ·have h131:vc .gtr bi 131072=false:=by rw[qc,gtr_false];omega
  by_cases hl0:bl=0
  ·have hb0:vc .eql bi 0=true:=by rw[qc,kt];omega
   have hfe:SR.1=10:=by rw[hSR];exact khk hlen (krF (by omega)) (by decide)
   as_aux_lemma=>
   cbv;rw[ho,h131];cbv;rw[ho,hb0];cbv;(repeat refine And.intro (fun _=>rfl) ?_);refine⟨[1,2,3],[0,1,2,3],.tup [.val (.slice none 0 0),.agg [.val (.slice none 0 0),.val (.slice none 0 0),.val (.slice none 0 0)],.lit .i64 10],[.ro .u8 b,.bufA 79 3 n0 (fun m=>[.int .u8 (a0 m),.int .u8 (b0 m),.int .u16 (d0 m)]) k0,.bufA 79 3 n1 (fun m=>[.int .u8 (a1 m),.int .u8 (b1 m),.int .u16 (d1 m)]) k1,.bufA 79 3 n2 (fun m=>[.int .u8 (a2 m),.int .u8 (b2 m),.int .u16 (d2 m)]) k2],rfl,rfl,rfl,rfl,rfl,?_,?_⟩
   ·exact⟨rfl,rfl,fun _=>rfl,rfl,fun _=>rfl,rfl,fun _=>rfl,trivial⟩
   ·exact hE 10 hfe (by decide) _ _ _ _ _ _ _ _ _ _ _ _ _ _ _
  have hb0:vc .eql bi 0=false:=by rw[qc,kh];omega
  have hin0:(0:Int)≤0∧(0:Int)<(bl:Int):=by omega
  have hlt0:vaddN 0 0<vln b:=by rw[hadd0,hln];omega
  have hlt0':0<vln b:=by rw[hln];omega
  have hg0:vgd b 0=x0:=by rw[hvg,hx0]
  have hwx:vw .i64 x0=x0:=by rw[qw];exact wrap_i64 (by omega) (by omega)
  by_cases hx255:x0=255
  ·have v255:vc .eql x0 255=true:=by rw[qc,kt];exact hx255
   by_cases hs:bl<3
   ·have vl:vc .lss bi 3=true:=by rw[qc,ko];omega
    have hfe:SR.1=10:=by rw[hSR];exact khk hlen (kqC (by omega) (by rw[←hx0];exact hx255) (by omega)) (by decide)
    as_aux_lemma=>
    cbv;rw[ho,h131];cbv;rw[ho,hb0];cbv;(repeat refine And.intro (fun _=>rfl) ?_);refine⟨⟨hin0⟩,⟨hlt0⟩,⟨hlt0'⟩,?_⟩
    rw[hg0,hwx,v255];cbv;rw[ho,vl];cbv;(repeat refine And.intro (fun _=>rfl) ?_);refine⟨[1,2,3],[0,1,2,3],.tup [.val (.slice none 0 0),.agg [.val (.slice none 0 0),.val (.slice none 0 0),.val (.slice none 0 0)],.lit .i64 10],[.ro .u8 b,.bufA 79 3 n0 (fun m=>[.int .u8 (a0 m),.int .u8 (b0 m),.int .u16 (d0 m)]) k0,.bufA 79 3 n1 (fun m=>[.int .u8 (a1 m),.int .u8 (b1 m),.int .u16 (d1 m)]) k1,.bufA 79 3 n2 (fun m=>[.int .u8 (a2 m),.int .u8 (b2 m),.int .u16 (d2 m)]) k2],rfl,rfl,rfl,rfl,rfl,?_,?_⟩
    ·exact⟨rfl,rfl,fun _=>rfl,rfl,fun _=>rfl,rfl,fun _=>rfl,trivial⟩
    ·exact hE 10 hfe (by decide) _ _ _ _ _ _ _ _ _ _ _ _ _ _ _
   have vl:vc .lss bi 3=false:=by rw[qc,km];omega
   obtain⟨nv,hnv⟩:∃x,x=x1+x2*256+32512:=⟨_,rfl⟩;have hw1:vw .i64 x1=x1:=by rw[qw];exact wrap_i64 (by omega) (by omega)
   have hw2:vw .i64 x2=x2:=by rw[qw];exact wrap_i64 (by omega) (by omega)
   have hg1:vgd b 1=x1:=by rw[hvg,hx1]
   have hg2:vgd b 2=x2:=by rw[hvg,hx2]
   have e1:vb .shl .i64 x2 8=x2*256:=by rw[qb];exact kky (n:=8) (by omega) (by omega) (by omega)
   have e2:vb .add .i64 x1 (x2*256)=x1+x2*256:=by rw[qb];exact ku (by omega) (by omega)
   have e3:vb .add .i64 (x1+x2*256) 32512=nv:=by rw[qb,hnv];exact ku (by omega) (by omega)
   have hH:hdS b=(0,nv,3):=by rw[krG (by rw[←hx0];exact hx255) (by omega),←hx1,←hx2,hnv]
   have hin1:(0:Int)≤1∧(1:Int)<(bl:Int):=by omega
   have hlt1:vaddN 0 1<vln b:=by rw[hadd0,hln];omega
   have hlt1':1<vln b:=by rw[hln];omega
   have hin2:(0:Int)≤2∧(2:Int)<(bl:Int):=by omega
   have hlt2:vaddN 0 2<vln b:=by rw[hadd0,hln];omega
   have hlt2':2<vln b:=by rw[hln];omega
   have hn0:¬nv=0:=by omega
   have vn0:vc .eql nv 0=false:=by rw[qc,kh];exact hn0
   by_cases heq:bl=3
   ·have vq:vc .eql bi 3=true:=by rw[qc,kt];omega
    have hfe:SR.1=10:=by rw[hSR];exact khl hlen hH hn0 (by omega)
    as_aux_lemma=>
    cbv;rw[ho,h131];cbv;rw[ho,hb0];cbv;(repeat refine And.intro (fun _=>rfl) ?_);refine⟨⟨hin0⟩,⟨hlt0⟩,⟨hlt0'⟩,?_⟩
    rw[hg0,hwx,v255];cbv;rw[ho,vl];cbv;(repeat refine And.intro (fun _=>rfl) ?_);refine⟨⟨hin1⟩,⟨hlt1⟩,⟨hlt1'⟩,⟨hin2⟩,⟨hlt2⟩,⟨hlt2'⟩,?_⟩
    rw[hg1,hg2,hw1,hw2,e1,e2,e3];rw[vn0];cbv;rw[ho,vq];cbv;(repeat refine And.intro (fun _=>rfl) ?_);refine⟨[1,2,3],[0,1,2,3],.tup [.val (.slice none 0 0),.agg [.val (.slice none 0 0),.val (.slice none 0 0),.val (.slice none 0 0)],.lit .i64 10],[.ro .u8 b,.bufA 79 3 n0 (fun m=>[.int .u8 (a0 m),.int .u8 (b0 m),.int .u16 (d0 m)]) k0,.bufA 79 3 n1 (fun m=>[.int .u8 (a1 m),.int .u8 (b1 m),.int .u16 (d1 m)]) k1,.bufA 79 3 n2 (fun m=>[.int .u8 (a2 m),.int .u8 (b2 m),.int .u16 (d2 m)]) k2],rfl,rfl,rfl,rfl,rfl,?_,?_⟩
    ·exact⟨rfl,rfl,fun _=>rfl,rfl,fun _=>rfl,rfl,fun _=>rfl,trivial⟩
    ·exact hE 10 hfe (by decide) _ _ _ _ _ _ _ _ _ _ _ _ _ _ _
   have vq:vc .eql bi 3=false:=by rw[qc,kh];omega
   have hina:(0:Int)≤3∧(3:Int)<(bl:Int):=by omega
   have hlta:vaddN 0 3<vln b:=by rw[hadd0,hln];omega
   have hlta':3<vln b:=by rw[hln];omega
   obtain⟨ways,hways⟩:∃x,x=b.getD 3 0:=⟨_,rfl⟩;have hwr:=j5 hby 3;rw[←hways] at hwr;have hgw:vgd b 3=ways:=by rw[hvg,hways]
   obtain⟨w4,hw4⟩:∃x,x=ways % 4:=⟨_,rfl⟩;have vw4:vb .and .u8 ways 3=w4:=by rw[qb,hw4];exact jf (k:=.u8) rfl 2 (by decide) hwr.1 (by show ways<256;omega)
   by_cases hw0:w4=0
   ·have vw4z:vc .neq w4 0=false:=by rw[qc,kQ];omega
    obtain⟨at',hat⟩:∃x:Int,x=4:=⟨_,rfl⟩;have hF:hdS b=(0,nv,(at'-1).toNat)∧1≤nv∧nv≤100000∧2≤at'∧at'≤4∧at'≤bi∧ways=b.getD (at'-1).toNat 0∧ways % 4=0:=by
     rw[hat];exact⟨hH,by omega,by omega,by omega,by omega,by omega,hways,by omega⟩
    cbv;rw[ho,h131];cbv;rw[ho,hb0];cbv;(repeat refine And.intro (fun _=>rfl) ?_);refine⟨⟨hin0⟩,⟨hlt0⟩,⟨hlt0'⟩,?_⟩
    rw[hg0,hwx,v255];cbv;rw[ho,vl];cbv;(repeat refine And.intro (fun _=>rfl) ?_);refine⟨⟨hin1⟩,⟨hlt1⟩,⟨hlt1'⟩,⟨hin2⟩,⟨hlt2⟩,⟨hlt2'⟩,?_⟩
    rw[hg1,hg2,hw1,hw2,e1,e2,e3];rw[vn0];cbv;rw[ho,vq];cbv;(repeat refine And.intro (fun _=>rfl) ?_);refine⟨⟨hina⟩,⟨hlta⟩,⟨hlta'⟩,?_⟩
    rw[hgw,vw4,vw4z];cbv;refine CallX.cv f24.go (Cv.slotEq 8 (.int .i64 at') (by rfl) (fun σ=>by rw[hat];rfl) (Cv.fold [1027069] 6 [] (by exact Nat.le_refl _) (by exact Nat.le_of_ble_eq_true rfl) (by rfl) (by cbv) ?_)) (by rfl)
    intro js;cbv;exact key js nv at' ways hF
   ·have vw4z:vc .neq w4 0=true:=by rw[qc,kz];exact hw0
    have hfe:SR.1=11:=by rw[hSR];exact kdX hlen hH hn0 (by omega) (by rw[←hways];omega)
    as_aux_lemma=>
    cbv;rw[ho,h131];cbv;rw[ho,hb0];cbv;(repeat refine And.intro (fun _=>rfl) ?_);refine⟨⟨hin0⟩,⟨hlt0⟩,⟨hlt0'⟩,?_⟩
    rw[hg0,hwx,v255];cbv;rw[ho,vl];cbv;(repeat refine And.intro (fun _=>rfl) ?_);refine⟨⟨hin1⟩,⟨hlt1⟩,⟨hlt1'⟩,⟨hin2⟩,⟨hlt2⟩,⟨hlt2'⟩,?_⟩
    rw[hg1,hg2,hw1,hw2,e1,e2,e3];rw[vn0];cbv;rw[ho,vq];cbv;(repeat refine And.intro (fun _=>rfl) ?_);refine⟨⟨hina⟩,⟨hlta⟩,⟨hlta'⟩,?_⟩
    rw[hgw,vw4,vw4z];cbv;(repeat refine And.intro (fun _=>rfl) ?_);refine⟨[1,2,3],[0,1,2,3],.tup [.val (.slice none 0 0),.agg [.val (.slice none 0 0),.val (.slice none 0 0),.val (.slice none 0 0)],.lit .i64 11],[.ro .u8 b,.bufA 79 3 n0 (fun m=>[.int .u8 (a0 m),.int .u8 (b0 m),.int .u16 (d0 m)]) k0,.bufA 79 3 n1 (fun m=>[.int .u8 (a1 m),.int .u8 (b1 m),.int .u16 (d1 m)]) k1,.bufA 79 3 n2 (fun m=>[.int .u8 (a2 m),.int .u8 (b2 m),.int .u16 (d2 m)]) k2],rfl,rfl,rfl,rfl,rfl,?_,?_⟩
    ·exact⟨rfl,rfl,fun _=>rfl,rfl,fun _=>rfl,rfl,fun _=>rfl,trivial⟩
    ·exact hE 11 hfe (by decide) _ _ _ _ _ _ _ _ _ _ _ _ _ _ _
  by_cases hx128:128≤x0
  ·have v255:vc .eql x0 255=false:=by rw[qc,kh];exact hx255
   have v128:vc .geq x0 128=true:=by rw[qc,jm];exact hx128
   by_cases hs:bl<2
   ·have vl:vc .lss bi 2=true:=by rw[qc,ko];omega
    have hfe:SR.1=10:=by rw[hSR];exact khk hlen (kqD (by omega) (by rw[←hx0];exact hx255) (by rw[←hx0];exact hx128) (by omega)) (by decide)
    as_aux_lemma=>
    cbv;rw[ho,h131];cbv;rw[ho,hb0];cbv;(repeat refine And.intro (fun _=>rfl) ?_);refine⟨⟨hin0⟩,⟨hlt0⟩,⟨hlt0'⟩,?_⟩
    rw[hg0,hwx,v255];cbv;rw[v128];cbv;rw[ho,vl];cbv;(repeat refine And.intro (fun _=>rfl) ?_);refine⟨[1,2,3],[0,1,2,3],.tup [.val (.slice none 0 0),.agg [.val (.slice none 0 0),.val (.slice none 0 0),.val (.slice none 0 0)],.lit .i64 10],[.ro .u8 b,.bufA 79 3 n0 (fun m=>[.int .u8 (a0 m),.int .u8 (b0 m),.int .u16 (d0 m)]) k0,.bufA 79 3 n1 (fun m=>[.int .u8 (a1 m),.int .u8 (b1 m),.int .u16 (d1 m)]) k1,.bufA 79 3 n2 (fun m=>[.int .u8 (a2 m),.int .u8 (b2 m),.int .u16 (d2 m)]) k2],rfl,rfl,rfl,rfl,rfl,?_,?_⟩
    ·exact⟨rfl,rfl,fun _=>rfl,rfl,fun _=>rfl,rfl,fun _=>rfl,trivial⟩
    ·exact hE 10 hfe (by decide) _ _ _ _ _ _ _ _ _ _ _ _ _ _ _
   have vl:vc .lss bi 2=false:=by rw[qc,km];omega
   obtain⟨nv,hnv⟩:∃x,x=(x0-128)*256+x1:=⟨_,rfl⟩;have hw1:vw .i64 x1=x1:=by rw[qw];exact wrap_i64 (by omega) (by omega)
   have hg1:vgd b 1=x1:=by rw[hvg,hx1]
   have e1:vb .sub .i64 x0 128=x0-128:=by rw[qb];exact kJ (by omega) (by omega)
   have e2:vb .shl .i64 (x0-128) 8=(x0-128)*256:=by rw[qb];exact kky (n:=8) (by omega) (by omega) (by omega)
   have e3:vb .add .i64 ((x0-128)*256) x1=nv:=by rw[qb,hnv];exact ku (by omega) (by omega)
   have hH:hdS b=(0,nv,2):=by rw[krH (by rw[←hx0];exact hx255) (by rw[←hx0];exact hx128) (by omega),←hx0,←hx1,hnv]
   have hin1:(0:Int)≤1∧(1:Int)<(bl:Int):=by omega
   have hlt1:vaddN 0 1<vln b:=by rw[hadd0,hln];omega
   have hlt1':1<vln b:=by rw[hln];omega
   by_cases hn0:nv=0
   ·have vn0:vc .eql nv 0=true:=by rw[qc,kt];exact hn0
    have hz:=knI (TL:=⟨n0,a0,b0,d0⟩) (TB:=⟨n1,a1,b1,d1⟩) (TM:=⟨n2,a2,b2,d2⟩) hlen (show hdS b=(0,0,2) by rw[hH,hn0]);rw[←hSR] at hz;by_cases hgt:2<bl
    ·have vg:vc .gtr bi 2=true:=by rw[qc,gtr_true];omega
     have hfe:SR.1=11:=by rw[hz,if_pos (by omega)]
     as_aux_lemma=>
     cbv;rw[ho,h131];cbv;rw[ho,hb0];cbv;(repeat refine And.intro (fun _=>rfl) ?_);refine⟨⟨hin0⟩,⟨hlt0⟩,⟨hlt0'⟩,?_⟩
     rw[hg0,hwx,v255];cbv;rw[v128];cbv;rw[ho,vl];cbv;(repeat refine And.intro (fun _=>rfl) ?_);refine⟨⟨hin1⟩,⟨hlt1⟩,⟨hlt1'⟩,?_⟩
     rw[e1,e2,hg1,hw1,e3];rw[vn0];cbv;rw[ho,vg];cbv;(repeat refine And.intro (fun _=>rfl) ?_);refine⟨[1,2,3],[0,1,2,3],.tup [.val (.slice none 0 0),.agg [.val (.slice none 0 0),.val (.slice none 0 0),.val (.slice none 0 0)],.lit .i64 11],[.ro .u8 b,.bufA 79 3 n0 (fun m=>[.int .u8 (a0 m),.int .u8 (b0 m),.int .u16 (d0 m)]) k0,.bufA 79 3 n1 (fun m=>[.int .u8 (a1 m),.int .u8 (b1 m),.int .u16 (d1 m)]) k1,.bufA 79 3 n2 (fun m=>[.int .u8 (a2 m),.int .u8 (b2 m),.int .u16 (d2 m)]) k2],rfl,rfl,rfl,rfl,rfl,?_,?_⟩
     ·exact⟨rfl,rfl,fun _=>rfl,rfl,fun _=>rfl,rfl,fun _=>rfl,trivial⟩
     ·exact hE 11 hfe (by decide) _ _ _ _ _ _ _ _ _ _ _ _ _ _ _
    ·have vg:vc .gtr bi 2=false:=by rw[qc,gtr_false];omega
     have hfe:=hN (by rw[hz,if_neg (by omega)])
     as_aux_lemma=>
     cbv;rw[ho,h131];cbv;rw[ho,hb0];cbv;(repeat refine And.intro (fun _=>rfl) ?_);refine⟨⟨hin0⟩,⟨hlt0⟩,⟨hlt0'⟩,?_⟩
     rw[hg0,hwx,v255];cbv;rw[v128];cbv;rw[ho,vl];cbv;(repeat refine And.intro (fun _=>rfl) ?_);refine⟨⟨hin1⟩,⟨hlt1⟩,⟨hlt1'⟩,?_⟩
     rw[e1,e2,hg1,hw1,e3];rw[vn0];cbv;rw[ho,vg];cbv;(repeat refine And.intro (fun _=>rfl) ?_);refine⟨[1,2,3],[0,1,2,3],.tup [.val (.slice none 0 0),.agg [.slice 1 .z 3 n0 c0,.slice 2 .z 3 n1 c1,.slice 3 .z 3 n2 c2],.lit .i64 0],[.ro .u8 b,.bufA 79 3 n0 (fun m=>[.int .u8 (a0 m),.int .u8 (b0 m),.int .u16 (d0 m)]) k0,.bufA 79 3 n1 (fun m=>[.int .u8 (a1 m),.int .u8 (b1 m),.int .u16 (d1 m)]) k1,.bufA 79 3 n2 (fun m=>[.int .u8 (a2 m),.int .u8 (b2 m),.int .u16 (d2 m)]) k2],rfl,rfl,rfl,rfl,rfl,?_,hfe⟩
     exact⟨rfl,rfl,fun _=>rfl,rfl,fun _=>rfl,rfl,fun _=>rfl,trivial⟩
   have vn0:vc .eql nv 0=false:=by rw[qc,kh];exact hn0
   by_cases heq:bl=2
   ·have vq:vc .eql bi 2=true:=by rw[qc,kt];omega
    have hfe:SR.1=10:=by rw[hSR];exact khl hlen hH hn0 (by omega)
    as_aux_lemma=>
    cbv;rw[ho,h131];cbv;rw[ho,hb0];cbv;(repeat refine And.intro (fun _=>rfl) ?_);refine⟨⟨hin0⟩,⟨hlt0⟩,⟨hlt0'⟩,?_⟩
    rw[hg0,hwx,v255];cbv;rw[v128];cbv;rw[ho,vl];cbv;(repeat refine And.intro (fun _=>rfl) ?_);refine⟨⟨hin1⟩,⟨hlt1⟩,⟨hlt1'⟩,?_⟩
    rw[e1,e2,hg1,hw1,e3];rw[vn0];cbv;rw[ho,vq];cbv;(repeat refine And.intro (fun _=>rfl) ?_);refine⟨[1,2,3],[0,1,2,3],.tup [.val (.slice none 0 0),.agg [.val (.slice none 0 0),.val (.slice none 0 0),.val (.slice none 0 0)],.lit .i64 10],[.ro .u8 b,.bufA 79 3 n0 (fun m=>[.int .u8 (a0 m),.int .u8 (b0 m),.int .u16 (d0 m)]) k0,.bufA 79 3 n1 (fun m=>[.int .u8 (a1 m),.int .u8 (b1 m),.int .u16 (d1 m)]) k1,.bufA 79 3 n2 (fun m=>[.int .u8 (a2 m),.int .u8 (b2 m),.int .u16 (d2 m)]) k2],rfl,rfl,rfl,rfl,rfl,?_,?_⟩
    ·exact⟨rfl,rfl,fun _=>rfl,rfl,fun _=>rfl,rfl,fun _=>rfl,trivial⟩
    ·exact hE 10 hfe (by decide) _ _ _ _ _ _ _ _ _ _ _ _ _ _ _
   have vq:vc .eql bi 2=false:=by rw[qc,kh];omega
   have hina:(0:Int)≤2∧(2:Int)<(bl:Int):=by omega
   have hlta:vaddN 0 2<vln b:=by rw[hadd0,hln];omega
   have hlta':2<vln b:=by rw[hln];omega
   obtain⟨ways,hways⟩:∃x,x=b.getD 2 0:=⟨_,rfl⟩;have hwr:=j5 hby 2;rw[←hways] at hwr;have hgw:vgd b 2=ways:=by rw[hvg,hways]
   obtain⟨w4,hw4⟩:∃x,x=ways % 4:=⟨_,rfl⟩;have vw4:vb .and .u8 ways 3=w4:=by rw[qb,hw4];exact jf (k:=.u8) rfl 2 (by decide) hwr.1 (by show ways<256;omega)
   by_cases hw0:w4=0
   ·have vw4z:vc .neq w4 0=false:=by rw[qc,kQ];omega
    obtain⟨at',hat⟩:∃x:Int,x=3:=⟨_,rfl⟩;have hF:hdS b=(0,nv,(at'-1).toNat)∧1≤nv∧nv≤100000∧2≤at'∧at'≤4∧at'≤bi∧ways=b.getD (at'-1).toNat 0∧ways % 4=0:=by
     rw[hat];exact⟨hH,by omega,by omega,by omega,by omega,by omega,hways,by omega⟩
    cbv;rw[ho,h131];cbv;rw[ho,hb0];cbv;(repeat refine And.intro (fun _=>rfl) ?_);refine⟨⟨hin0⟩,⟨hlt0⟩,⟨hlt0'⟩,?_⟩
    rw[hg0,hwx,v255];cbv;rw[v128];cbv;rw[ho,vl];cbv;(repeat refine And.intro (fun _=>rfl) ?_);refine⟨⟨hin1⟩,⟨hlt1⟩,⟨hlt1'⟩,?_⟩
    rw[e1,e2,hg1,hw1,e3];rw[vn0];cbv;rw[ho,vq];cbv;(repeat refine And.intro (fun _=>rfl) ?_);refine⟨⟨hina⟩,⟨hlta⟩,⟨hlta'⟩,?_⟩
    rw[hgw,vw4,vw4z];cbv;refine CallX.cv f24.go (Cv.slotEq 8 (.int .i64 at') (by rfl) (fun σ=>by rw[hat];rfl) (Cv.fold [1027069] 6 [] (by exact Nat.le_refl _) (by exact Nat.le_of_ble_eq_true rfl) (by rfl) (by cbv) ?_)) (by rfl)
    intro js;cbv;exact key js nv at' ways hF
   ·have vw4z:vc .neq w4 0=true:=by rw[qc,kz];exact hw0
    have hfe:SR.1=11:=by rw[hSR];exact kdX hlen hH hn0 (by omega) (by rw[←hways];omega)
    as_aux_lemma=>
    cbv;rw[ho,h131];cbv;rw[ho,hb0];cbv;(repeat refine And.intro (fun _=>rfl) ?_);refine⟨⟨hin0⟩,⟨hlt0⟩,⟨hlt0'⟩,?_⟩
    rw[hg0,hwx,v255];cbv;rw[v128];cbv;rw[ho,vl];cbv;(repeat refine And.intro (fun _=>rfl) ?_);refine⟨⟨hin1⟩,⟨hlt1⟩,⟨hlt1'⟩,?_⟩
    rw[e1,e2,hg1,hw1,e3];rw[vn0];cbv;rw[ho,vq];cbv;(repeat refine And.intro (fun _=>rfl) ?_);refine⟨⟨hina⟩,⟨hlta⟩,⟨hlta'⟩,?_⟩
    rw[hgw,vw4,vw4z];cbv;(repeat refine And.intro (fun _=>rfl) ?_);refine⟨[1,2,3],[0,1,2,3],.tup [.val (.slice none 0 0),.agg [.val (.slice none 0 0),.val (.slice none 0 0),.val (.slice none 0 0)],.lit .i64 11],[.ro .u8 b,.bufA 79 3 n0 (fun m=>[.int .u8 (a0 m),.int .u8 (b0 m),.int .u16 (d0 m)]) k0,.bufA 79 3 n1 (fun m=>[.int .u8 (a1 m),.int .u8 (b1 m),.int .u16 (d1 m)]) k1,.bufA 79 3 n2 (fun m=>[.int .u8 (a2 m),.int .u8 (b2 m),.int .u16 (d2 m)]) k2],rfl,rfl,rfl,rfl,rfl,?_,?_⟩
    ·exact⟨rfl,rfl,fun _=>rfl,rfl,fun _=>rfl,rfl,fun _=>rfl,trivial⟩
    ·exact hE 11 hfe (by decide) _ _ _ _ _ _ _ _ _ _ _ _ _ _ _
  ·have v255:vc .eql x0 255=false:=by rw[qc,kh];exact hx255
   have v128:vc .geq x0 128=false:=by rw[qc,kZ];exact hx128
   have vl:vc .lss bi 1=false:=by rw[qc,km];omega
   have hH:hdS b=(0,x0,1):=by rw[krI (by omega) (by rw[←hx0];exact hx255) (by rw[←hx0];exact hx128),←hx0]
   by_cases hn0:x0=0
   ·have vn0:vc .eql x0 0=true:=by rw[qc,kt];exact hn0
    have hz:=knI (TL:=⟨n0,a0,b0,d0⟩) (TB:=⟨n1,a1,b1,d1⟩) (TM:=⟨n2,a2,b2,d2⟩) hlen (show hdS b=(0,0,1) by rw[hH,hn0]);rw[←hSR] at hz;by_cases hgt:1<bl
    ·have vg:vc .gtr bi 1=true:=by rw[qc,gtr_true];omega
     have hfe:SR.1=11:=by rw[hz,if_pos (by omega)]
     as_aux_lemma=>
     cbv;rw[ho,h131];cbv;rw[ho,hb0];cbv;(repeat refine And.intro (fun _=>rfl) ?_);refine⟨⟨hin0⟩,⟨hlt0⟩,⟨hlt0'⟩,?_⟩
     rw[hg0,hwx,v255];cbv;rw[v128];cbv;rw[ho,vl];cbv;rw[vn0];cbv;rw[ho,vg];cbv;(repeat refine And.intro (fun _=>rfl) ?_);refine⟨[1,2,3],[0,1,2,3],.tup [.val (.slice none 0 0),.agg [.val (.slice none 0 0),.val (.slice none 0 0),.val (.slice none 0 0)],.lit .i64 11],[.ro .u8 b,.bufA 79 3 n0 (fun m=>[.int .u8 (a0 m),.int .u8 (b0 m),.int .u16 (d0 m)]) k0,.bufA 79 3 n1 (fun m=>[.int .u8 (a1 m),.int .u8 (b1 m),.int .u16 (d1 m)]) k1,.bufA 79 3 n2 (fun m=>[.int .u8 (a2 m),.int .u8 (b2 m),.int .u16 (d2 m)]) k2],rfl,rfl,rfl,rfl,rfl,?_,?_⟩
     ·exact⟨rfl,rfl,fun _=>rfl,rfl,fun _=>rfl,rfl,fun _=>rfl,trivial⟩
     ·exact hE 11 hfe (by decide) _ _ _ _ _ _ _ _ _ _ _ _ _ _ _
    ·have vg:vc .gtr bi 1=false:=by rw[qc,gtr_false];omega
     have hfe:=hN (by rw[hz,if_neg (by omega)])
     as_aux_lemma=>
     cbv;rw[ho,h131];cbv;rw[ho,hb0];cbv;(repeat refine And.intro (fun _=>rfl) ?_);refine⟨⟨hin0⟩,⟨hlt0⟩,⟨hlt0'⟩,?_⟩
     rw[hg0,hwx,v255];cbv;rw[v128];cbv;rw[ho,vl];cbv;rw[vn0];cbv;rw[ho,vg];cbv;(repeat refine And.intro (fun _=>rfl) ?_);refine⟨[1,2,3],[0,1,2,3],.tup [.val (.slice none 0 0),.agg [.slice 1 .z 3 n0 c0,.slice 2 .z 3 n1 c1,.slice 3 .z 3 n2 c2],.lit .i64 0],[.ro .u8 b,.bufA 79 3 n0 (fun m=>[.int .u8 (a0 m),.int .u8 (b0 m),.int .u16 (d0 m)]) k0,.bufA 79 3 n1 (fun m=>[.int .u8 (a1 m),.int .u8 (b1 m),.int .u16 (d1 m)]) k1,.bufA 79 3 n2 (fun m=>[.int .u8 (a2 m),.int .u8 (b2 m),.int .u16 (d2 m)]) k2],rfl,rfl,rfl,rfl,rfl,?_,hfe⟩
     exact⟨rfl,rfl,fun _=>rfl,rfl,fun _=>rfl,rfl,fun _=>rfl,trivial⟩
   have vn0:vc .eql x0 0=false:=by rw[qc,kh];exact hn0
   by_cases heq:bl=1
   ·have vq:vc .eql bi 1=true:=by rw[qc,kt];omega
    have hfe:SR.1=10:=by rw[hSR];exact khl hlen hH hn0 (by omega)
    as_aux_lemma=>
    cbv;rw[ho,h131];cbv;rw[ho,hb0];cbv;(repeat refine And.intro (fun _=>rfl) ?_);refine⟨⟨hin0⟩,⟨hlt0⟩,⟨hlt0'⟩,?_⟩
    rw[hg0,hwx,v255];cbv;rw[v128];cbv;rw[ho,vl];cbv;rw[vn0];cbv;rw[ho,vq];cbv;(repeat refine And.intro (fun _=>rfl) ?_);refine⟨[1,2,3],[0,1,2,3],.tup [.val (.slice none 0 0),.agg [.val (.slice none 0 0),.val (.slice none 0 0),.val (.slice none 0 0)],.lit .i64 10],[.ro .u8 b,.bufA 79 3 n0 (fun m=>[.int .u8 (a0 m),.int .u8 (b0 m),.int .u16 (d0 m)]) k0,.bufA 79 3 n1 (fun m=>[.int .u8 (a1 m),.int .u8 (b1 m),.int .u16 (d1 m)]) k1,.bufA 79 3 n2 (fun m=>[.int .u8 (a2 m),.int .u8 (b2 m),.int .u16 (d2 m)]) k2],rfl,rfl,rfl,rfl,rfl,?_,?_⟩
    ·exact⟨rfl,rfl,fun _=>rfl,rfl,fun _=>rfl,rfl,fun _=>rfl,trivial⟩
    ·exact hE 10 hfe (by decide) _ _ _ _ _ _ _ _ _ _ _ _ _ _ _
   have vq:vc .eql bi 1=false:=by rw[qc,kh];omega
   have hina:(0:Int)≤1∧(1:Int)<(bl:Int):=by omega
   have hlta:vaddN 0 1<vln b:=by rw[hadd0,hln];omega
   have hlta':1<vln b:=by rw[hln];omega
   obtain⟨ways,hways⟩:∃x,x=b.getD 1 0:=⟨_,rfl⟩;have hwr:=j5 hby 1;rw[←hways] at hwr;have hgw:vgd b 1=ways:=by rw[hvg,hways]
   obtain⟨w4,hw4⟩:∃x,x=ways % 4:=⟨_,rfl⟩;have vw4:vb .and .u8 ways 3=w4:=by rw[qb,hw4];exact jf (k:=.u8) rfl 2 (by decide) hwr.1 (by show ways<256;omega)
   by_cases hw0:w4=0
   ·have vw4z:vc .neq w4 0=false:=by rw[qc,kQ];omega
    obtain⟨at',hat⟩:∃x:Int,x=2:=⟨_,rfl⟩;have hF:hdS b=(0,x0,(at'-1).toNat)∧1≤x0∧x0≤100000∧2≤at'∧at'≤4∧at'≤bi∧ways=b.getD (at'-1).toNat 0∧ways % 4=0:=by
     rw[hat];exact⟨hH,by omega,by omega,by omega,by omega,by omega,hways,by omega⟩
    cbv;rw[ho,h131];cbv;rw[ho,hb0];cbv;(repeat refine And.intro (fun _=>rfl) ?_);refine⟨⟨hin0⟩,⟨hlt0⟩,⟨hlt0'⟩,?_⟩
    rw[hg0,hwx,v255];cbv;rw[v128];cbv;rw[ho,vl];cbv;rw[vn0];cbv;rw[ho,vq];cbv;(repeat refine And.intro (fun _=>rfl) ?_);refine⟨⟨hina⟩,⟨hlta⟩,⟨hlta'⟩,?_⟩
    rw[hgw,vw4,vw4z];cbv;refine CallX.cv f24.go (Cv.slotEq 8 (.int .i64 at') (by rfl) (fun σ=>by rw[hat];rfl) (Cv.fold [1027069] 6 [] (by exact Nat.le_refl _) (by exact Nat.le_of_ble_eq_true rfl) (by rfl) (by cbv) ?_)) (by rfl)
    intro js;cbv;exact key js x0 at' ways hF
   ·have vw4z:vc .neq w4 0=true:=by rw[qc,kz];exact hw0
    have hfe:SR.1=11:=by rw[hSR];exact kdX hlen hH hn0 (by omega) (by rw[←hways];omega)
    as_aux_lemma=>
    cbv;rw[ho,h131];cbv;rw[ho,hb0];cbv;(repeat refine And.intro (fun _=>rfl) ?_);refine⟨⟨hin0⟩,⟨hlt0⟩,⟨hlt0'⟩,?_⟩
    rw[hg0,hwx,v255];cbv;rw[v128];cbv;rw[ho,vl];cbv;rw[vn0];cbv;rw[ho,vq];cbv;(repeat refine And.intro (fun _=>rfl) ?_);refine⟨⟨hina⟩,⟨hlta⟩,⟨hlta'⟩,?_⟩
    rw[hgw,vw4,vw4z];cbv;(repeat refine And.intro (fun _=>rfl) ?_);refine⟨[1,2,3],[0,1,2,3],.tup [.val (.slice none 0 0),.agg [.val (.slice none 0 0),.val (.slice none 0 0),.val (.slice none 0 0)],.lit .i64 11],[.ro .u8 b,.bufA 79 3 n0 (fun m=>[.int .u8 (a0 m),.int .u8 (b0 m),.int .u16 (d0 m)]) k0,.bufA 79 3 n1 (fun m=>[.int .u8 (a1 m),.int .u8 (b1 m),.int .u16 (d1 m)]) k1,.bufA 79 3 n2 (fun m=>[.int .u8 (a2 m),.int .u8 (b2 m),.int .u16 (d2 m)]) k2],rfl,rfl,rfl,rfl,rfl,?_,?_⟩
    ·exact⟨rfl,rfl,fun _=>rfl,rfl,fun _=>rfl,rfl,fun _=>rfl,trivial⟩
    ·exact hE 11 hfe (by decide) _ _ _ _ _ _ _ _ _ _ _ _ _ _ _
 ·intro js n at' ways ⟨hH,hn1,hn2,hat1,hat2,hat3,hws,hw4⟩
  obtain⟨u,hu⟩:∃u:Nat,at'=u:=⟨at'.toNat,by omega⟩;have hu1:(at'-1).toNat=u-1:=by omega
  rw[hu1] at hH hws;have hwr:0≤ways∧ways<256:=by rw[hws];exact j5 hby (u-1)
  have hnn:n≠0:=by omega
  have hau:¬b.length=u-1:=by omega
  have hw40:b.getD (u-1) 0 % 4=0:=by rw[←hws];exact hw4
  have h00:vc .neq 0 0=false:=by rw[qc];rfl
  obtain⟨u0,hu0⟩:∃x:Nat,x=u-1+1:=⟨_,rfl⟩;have at0e:at'=u0:=by omega
  have hto0:vtoN at'=u0:=by simp only[qtoN];omega
  have hin0:0≤at'∧at'≤(bl:Int):=by omega
  have hub0:u0≤b.length:=by omega
  obtain⟨q0,hq0⟩:∃q,q=b.drop u0:=⟨_,rfl⟩;obtain⟨ql0,hql0⟩:∃q,q=q0.length:=⟨_,rfl⟩;have hqlb0:ql0=bl-u0:=by rw[hql0,hq0,List.length_drop,hbl]
  have hsb0:vsubN bl u0=ql0:=by simp only[qsubN];exact hqlb0.symm
  obtain⟨sc0,hsc0⟩:∃s,s=vsubN cap u0:=⟨_,rfl⟩;obtain⟨cu0,hcu0⟩:∃s,s=vcutN 0 u0 cap:=⟨_,rfl⟩;have hvw0:qp cu0 q0 b:=by rw[hcu0,hq0,qcutN];exact ka5 b u0 cap (by omega) (by omega)
  have hqy0:∀x∈q0,isByte x:=fun x hx=>hby x (by rw[hq0] at hx;exact List.mem_of_mem_drop hx)
  have hqn0:q0.length≤140737488355328:=by omega
  obtain⟨y0,hy0⟩:∃y,y=ways / 64 % 4:=⟨_,rfl⟩;obtain⟨z0,hz0⟩:∃y,y=ways / 64:=⟨_,rfl⟩;have e01:vb .shr .u8 ways 6=z0:=by rw[qb,hz0];exact jE (k:=.u8) (by decide)
  have e02:vb .and .u8 z0 3=y0:=by rw[qb,hy0,←hz0];exact jf (k:=.u8) rfl 2 (by decide) (by omega) (by show z0<256;omega)
  obtain⟨⟨e0,us0,⟨N0,A0,B0,C0⟩⟩,hr0⟩:∃r,qP 9 35 6 kdm y0 q0 ⟨n0,a0,b0,d0⟩=r:=⟨_,rfl⟩;have ht0:=fun c=>htab0 q0 c sc0 n0 k0 c0 a0 b0 d0 y0 e0 us0 N0 A0 B0 C0 (by omega) hqy0 hqn0 hcL hr0
  rw[←hql0] at ht0;have hr0':qP 9 35 6 kdm (b.getD (u-1) 0 / 64 % 4) (b.drop (u-1+1)) ⟨n0,a0,b0,d0⟩=(e0,us0,⟨N0,A0,B0,C0⟩):=by rw[←hws,←hy0,←hu0,←hq0];exact hr0
  have hfe0:e0≠0→SR.1=e0:=fun h=>by rw[hSR];exact kph hlen hH hnn hau hw40 hr0' h
  have hv0:e0≠0→vc .neq e0 0=true:=fun h=>by rw[qc,kz];exact h
  by_cases he0:e0=0
  rotate_left
  ·refine ka (ρ:=[]) hk ⟨by rfl,by rfl,by rfl,by cbv;exact⟨fun _=>rfl,fun _=>rfl,fun _=>rfl,trivial⟩⟩ ?_
   rintro v H R js2 ⟨rfl,c,rfl,rfl⟩;cbv;(repeat refine And.intro (fun _=>rfl) ?_);refine WX.unr 4 hw hm ?_
   cbv;rw[e01,e02,hto0];refine⟨⟨by decide⟩,⟨hin0⟩,?_⟩
   rw[hsb0,←hsc0,←hcu0];refine kE hw hm f60 (by rfl) ?_
   cbv;(repeat refine And.intro (fun _=>rfl) ?_);intro js3;cbv;refine ka (ρ:=[(19,.z),(0,.n cu0),(1,.z),(6,.z),(7,.z),(8,.z),(9,.z),(10,.z),(11,.z),(12,.z),(13,.z),(14,.z),(15,.z),(16,.z),(17,.z),(18,.z)]) (ht0 c) ⟨by rfl,by rfl,by rfl,by cbv;(repeat refine And.intro (fun _=>rfl) ?_);exact⟨hvw0,by simp only[renL3,and_self],fun _=>rfl,trivial⟩⟩ ?_
   rintro v H R js4 (⟨_,rfl,rfl,uu,rfl⟩|⟨he,_⟩)
   rotate_left
   ·exfalso;exact he0 he
   cbv;(repeat refine And.intro (fun _=>rfl) ?_);rw[hv0 he0];cbv;(repeat refine And.intro (fun _=>rfl) ?_);refine⟨[1,2,3],[0,1,2,3],.tup [.val (.slice none 0 0),.agg [.val (.slice none 0 0),.val (.slice none 0 0),.val (.slice none 0 0)],.int .i64 e0],[.ro .u8 b,.bufA 79 3 n0 (fun m=>[.int .u8 (a0 m),.int .u8 (b0 m),.int .u16 (d0 m)]) k0,.bufA 79 3 n1 (fun m=>[.int .u8 (a1 m),.int .u8 (b1 m),.int .u16 (d1 m)]) k1,.bufA 79 3 n2 (fun m=>[.int .u8 (a2 m),.int .u8 (b2 m),.int .u16 (d2 m)]) k2],rfl,rfl,rfl,rfl,rfl,?_,?_⟩
   ·exact⟨rfl,rfl,fun _=>rfl,rfl,fun _=>rfl,rfl,fun _=>rfl,trivial⟩
   ·exact hE e0 (hfe0 he0) he0 _ _ _ _ _ _ _ _ _ _ _ _ _ _ _
  subst he0;clear hfe0 hv0;obtain⟨hT0',hN0,hus0,hus0'⟩:=kcl hT0 kcM (by decide) hqy0 hr0;obtain⟨u1,hu1⟩:∃x:Nat,x=u-1+1+us0.toNat:=⟨_,rfl⟩;obtain⟨at1,at1e⟩:∃x:Int,x=u1:=⟨_,rfl⟩;have hadd1:vb .add .i64 at' us0=at1:=by rw[qb,at1e,hu1];have:=ku (x:=at') (y:=us0) (by omega) (by omega);rw[this];omega
  have hto1:vtoN at1=u1:=by simp only[qtoN];omega
  have hin1:0≤at1∧at1≤(bl:Int):=by omega
  have hub1:u1≤b.length:=by omega
  obtain⟨q1,hq1⟩:∃q,q=b.drop u1:=⟨_,rfl⟩;obtain⟨ql1,hql1⟩:∃q,q=q1.length:=⟨_,rfl⟩;have hqlb1:ql1=bl-u1:=by rw[hql1,hq1,List.length_drop,hbl]
  have hsb1:vsubN bl u1=ql1:=by simp only[qsubN];exact hqlb1.symm
  obtain⟨sc1,hsc1⟩:∃s,s=vsubN cap u1:=⟨_,rfl⟩;obtain⟨cu1,hcu1⟩:∃s,s=vcutN 0 u1 cap:=⟨_,rfl⟩;have hvw1:qp cu1 q1 b:=by rw[hcu1,hq1,qcutN];exact ka5 b u1 cap (by omega) (by omega)
  have hqy1:∀x∈q1,isByte x:=fun x hx=>hby x (by rw[hq1] at hx;exact List.mem_of_mem_drop hx)
  have hqn1:q1.length≤140737488355328:=by omega
  obtain⟨y1,hy1⟩:∃y,y=ways / 16 % 4:=⟨_,rfl⟩;obtain⟨z1,hz1⟩:∃y,y=ways / 16:=⟨_,rfl⟩;have e11:vb .shr .u8 ways 4=z1:=by rw[qb,hz1];exact jE (k:=.u8) (by decide)
  have e12:vb .and .u8 z1 3=y1:=by rw[qb,hy1,←hz1];exact jf (k:=.u8) rfl 2 (by decide) (by omega) (by show z1<256;omega)
  obtain⟨⟨e1,us1,⟨N1,A1,B1,C1⟩⟩,hr1⟩:∃r,qP 8 31 5 kdW y1 q1 ⟨n1,a1,b1,d1⟩=r:=⟨_,rfl⟩;have ht1:=fun c=>htab1 q1 c sc1 n1 k1 c1 a1 b1 d1 y1 e1 us1 N1 A1 B1 C1 (by omega) hqy1 hqn1 hcB hr1
  rw[←hql1] at ht1;have hr1':qP 8 31 5 kdW (b.getD (u-1) 0 / 16 % 4) (b.drop (u-1+1+us0.toNat)) ⟨n1,a1,b1,d1⟩=(e1,us1,⟨N1,A1,B1,C1⟩):=by rw[←hws,←hy1,←hu1,←hq1];exact hr1
  have hfe1:e1≠0→SR.1=e1:=fun h=>by rw[hSR];exact kpi hlen hH hnn hau hw40 hr0' hr1' h
  have hv1:e1≠0→vc .neq e1 0=true:=fun h=>by rw[qc,kz];exact h
  by_cases he1:e1=0
  rotate_left
  ·refine ka (ρ:=[]) hk ⟨by rfl,by rfl,by rfl,by cbv;exact⟨fun _=>rfl,fun _=>rfl,fun _=>rfl,trivial⟩⟩ ?_
   rintro v H R js2 ⟨rfl,c,rfl,rfl⟩;cbv;(repeat refine And.intro (fun _=>rfl) ?_);refine WX.unr 4 hw hm ?_
   cbv;rw[e01,e02,hto0];refine⟨⟨by decide⟩,⟨hin0⟩,?_⟩
   rw[hsb0,←hsc0,←hcu0];refine kE hw hm f60 (by rfl) ?_
   cbv;(repeat refine And.intro (fun _=>rfl) ?_);intro js3;cbv;refine ka (ρ:=[(19,.z),(0,.n cu0),(1,.z),(6,.z),(7,.z),(8,.z),(9,.z),(10,.z),(11,.z),(12,.z),(13,.z),(14,.z),(15,.z),(16,.z),(17,.z),(18,.z)]) (ht0 c) ⟨by rfl,by rfl,by rfl,by cbv;(repeat refine And.intro (fun _=>rfl) ?_);exact⟨hvw0,by simp only[renL3,and_self],fun _=>rfl,trivial⟩⟩ ?_
   rintro v H R js4 (⟨he,_⟩|⟨_,rfl,cp0,c0',rfl,rfl⟩)
   ·exfalso;exact he rfl
   cbv;(repeat refine And.intro (fun _=>rfl) ?_);simp only[renL3];rw[h00];cbv;(repeat refine And.intro (fun _=>rfl) ?_);refine kE hw hm f60 (by rfl) ?_
   cbv;(repeat refine And.intro (fun _=>rfl) ?_);intro js5;cbv;rw[hadd1,e11,e12,hto1];refine⟨⟨by decide⟩,⟨hin1⟩,?_⟩
   rw[hsb1,←hsc1,←hcu1];refine kE hw hm f63 (by rfl) ?_
   cbv;(repeat refine And.intro (fun _=>rfl) ?_);intro js3;cbv;refine ka (ρ:=[(19,.z),(0,.n cu1),(2,.z),(6,.z),(7,.z),(8,.z),(9,.z),(10,.z),(11,.z),(12,.z),(13,.z),(14,.z),(15,.z),(16,.z),(17,.z),(18,.z)]) (ht1 c) ⟨by rfl,by rfl,by rfl,by cbv;(repeat refine And.intro (fun _=>rfl) ?_);exact⟨hvw1,by simp only[renL3,and_self],fun _=>rfl,trivial⟩⟩ ?_
   rintro v H R js4 (⟨_,rfl,rfl,uu,rfl⟩|⟨he,_⟩)
   rotate_left
   ·exfalso;exact he1 he
   cbv;(repeat refine And.intro (fun _=>rfl) ?_);rw[hv1 he1];cbv;(repeat refine And.intro (fun _=>rfl) ?_);refine⟨[1,2,3],[0,1,2,3],.tup [.val (.slice none 0 0),.agg [.val (.slice none 0 0),.val (.slice none 0 0),.val (.slice none 0 0)],.int .i64 e1],[.ro .u8 b,.bufA 79 3 N0 (fun m=>[.int .u8 (A0 m),.int .u8 (B0 m),.int .u16 (C0 m)]) c0',.bufA 79 3 n1 (fun m=>[.int .u8 (a1 m),.int .u8 (b1 m),.int .u16 (d1 m)]) k1,.bufA 79 3 n2 (fun m=>[.int .u8 (a2 m),.int .u8 (b2 m),.int .u16 (d2 m)]) k2],rfl,rfl,rfl,rfl,rfl,?_,?_⟩
   ·exact⟨rfl,rfl,fun _=>rfl,rfl,fun _=>rfl,rfl,fun _=>rfl,trivial⟩
   ·exact hE e1 (hfe1 he1) he1 _ _ _ _ _ _ _ _ _ _ _ _ _ _ _
  subst he1;clear hfe1 hv1;obtain⟨hT1',hN1,hus1,hus1'⟩:=kcl hT1 kcN (by decide) hqy1 hr1;obtain⟨u2,hu2⟩:∃x:Nat,x=u-1+1+us0.toNat+us1.toNat:=⟨_,rfl⟩;obtain⟨at2,at2e⟩:∃x:Int,x=u2:=⟨_,rfl⟩;have hadd2:vb .add .i64 at1 us1=at2:=by rw[qb,at2e,hu2];have:=ku (x:=at1) (y:=us1) (by omega) (by omega);rw[this];omega
  have hto2:vtoN at2=u2:=by simp only[qtoN];omega
  have hin2:0≤at2∧at2≤(bl:Int):=by omega
  have hub2:u2≤b.length:=by omega
  obtain⟨q2,hq2⟩:∃q,q=b.drop u2:=⟨_,rfl⟩;obtain⟨ql2,hql2⟩:∃q,q=q2.length:=⟨_,rfl⟩;have hqlb2:ql2=bl-u2:=by rw[hql2,hq2,List.length_drop,hbl]
  have hsb2:vsubN bl u2=ql2:=by simp only[qsubN];exact hqlb2.symm
  obtain⟨sc2,hsc2⟩:∃s,s=vsubN cap u2:=⟨_,rfl⟩;obtain⟨cu2,hcu2⟩:∃s,s=vcutN 0 u2 cap:=⟨_,rfl⟩;have hvw2:qp cu2 q2 b:=by rw[hcu2,hq2,qcutN];exact ka5 b u2 cap (by omega) (by omega)
  have hqy2:∀x∈q2,isByte x:=fun x hx=>hby x (by rw[hq2] at hx;exact List.mem_of_mem_drop hx)
  have hqn2:q2.length≤140737488355328:=by omega
  obtain⟨y2,hy2⟩:∃y,y=ways / 4 % 4:=⟨_,rfl⟩;obtain⟨z2,hz2⟩:∃y,y=ways / 4:=⟨_,rfl⟩;have e21:vb .shr .u8 ways 2=z2:=by rw[qb,hz2];exact jE (k:=.u8) (by decide)
  have e22:vb .and .u8 z2 3=y2:=by rw[qb,hy2,←hz2];exact jf (k:=.u8) rfl 2 (by decide) (by omega) (by show z2<256;omega)
  obtain⟨⟨e2,us2,⟨N2,A2,B2,C2⟩⟩,hr2⟩:∃r,qP 9 52 6 cntM y2 q2 ⟨n2,a2,b2,d2⟩=r:=⟨_,rfl⟩;have ht2:=fun c=>htab2 q2 c sc2 n2 k2 c2 a2 b2 d2 y2 e2 us2 N2 A2 B2 C2 (by omega) hqy2 hqn2 hcM hr2
  rw[←hql2] at ht2;have hr2':qP 9 52 6 cntM (b.getD (u-1) 0 / 4 % 4) (b.drop (u-1+1+us0.toNat+us1.toNat)) ⟨n2,a2,b2,d2⟩=(e2,us2,⟨N2,A2,B2,C2⟩):=by rw[←hws,←hy2,←hu2,←hq2];exact hr2
  have hfe2:e2≠0→SR.1=e2:=fun h=>by rw[hSR];exact kpj hlen hH hnn hau hw40 hr0' hr1' hr2' h
  have hv2:e2≠0→vc .neq e2 0=true:=fun h=>by rw[qc,kz];exact h
  by_cases he2:e2=0
  rotate_left
  ·refine ka (ρ:=[]) hk ⟨by rfl,by rfl,by rfl,by cbv;exact⟨fun _=>rfl,fun _=>rfl,fun _=>rfl,trivial⟩⟩ ?_
   rintro v H R js2 ⟨rfl,c,rfl,rfl⟩;cbv;(repeat refine And.intro (fun _=>rfl) ?_);refine WX.unr 4 hw hm ?_
   cbv;rw[e01,e02,hto0];refine⟨⟨by decide⟩,⟨hin0⟩,?_⟩
   rw[hsb0,←hsc0,←hcu0];refine kE hw hm f60 (by rfl) ?_
   cbv;(repeat refine And.intro (fun _=>rfl) ?_);intro js3;cbv;refine ka (ρ:=[(19,.z),(0,.n cu0),(1,.z),(6,.z),(7,.z),(8,.z),(9,.z),(10,.z),(11,.z),(12,.z),(13,.z),(14,.z),(15,.z),(16,.z),(17,.z),(18,.z)]) (ht0 c) ⟨by rfl,by rfl,by rfl,by cbv;(repeat refine And.intro (fun _=>rfl) ?_);exact⟨hvw0,by simp only[renL3,and_self],fun _=>rfl,trivial⟩⟩ ?_
   rintro v H R js4 (⟨he,_⟩|⟨_,rfl,cp0,c0',rfl,rfl⟩)
   ·exfalso;exact he rfl
   cbv;(repeat refine And.intro (fun _=>rfl) ?_);simp only[renL3];rw[h00];cbv;(repeat refine And.intro (fun _=>rfl) ?_);refine kE hw hm f60 (by rfl) ?_
   cbv;(repeat refine And.intro (fun _=>rfl) ?_);intro js5;cbv;rw[hadd1,e11,e12,hto1];refine⟨⟨by decide⟩,⟨hin1⟩,?_⟩
   rw[hsb1,←hsc1,←hcu1];refine kE hw hm f63 (by rfl) ?_
   cbv;(repeat refine And.intro (fun _=>rfl) ?_);intro js3;cbv;refine ka (ρ:=[(19,.z),(0,.n cu1),(2,.z),(6,.z),(7,.z),(8,.z),(9,.z),(10,.z),(11,.z),(12,.z),(13,.z),(14,.z),(15,.z),(16,.z),(17,.z),(18,.z)]) (ht1 c) ⟨by rfl,by rfl,by rfl,by cbv;(repeat refine And.intro (fun _=>rfl) ?_);exact⟨hvw1,by simp only[renL3,and_self],fun _=>rfl,trivial⟩⟩ ?_
   rintro v H R js4 (⟨he,_⟩|⟨_,rfl,cp1,c1',rfl,rfl⟩)
   ·exfalso;exact he rfl
   cbv;(repeat refine And.intro (fun _=>rfl) ?_);simp only[renL3];rw[h00];cbv;(repeat refine And.intro (fun _=>rfl) ?_);refine kE hw hm f63 (by rfl) ?_
   cbv;(repeat refine And.intro (fun _=>rfl) ?_);intro js5;cbv;rw[hadd2,e21,e22,hto2];refine⟨⟨by decide⟩,⟨hin2⟩,?_⟩
   rw[hsb2,←hsc2,←hcu2];refine kE hw hm f62 (by rfl) ?_
   cbv;(repeat refine And.intro (fun _=>rfl) ?_);intro js3;cbv;refine ka (ρ:=[(19,.z),(0,.n cu2),(3,.z),(6,.z),(7,.z),(8,.z),(9,.z),(10,.z),(11,.z),(12,.z),(13,.z),(14,.z),(15,.z),(16,.z),(17,.z),(18,.z)]) (ht2 c) ⟨by rfl,by rfl,by rfl,by cbv;(repeat refine And.intro (fun _=>rfl) ?_);exact⟨hvw2,by simp only[renL3,and_self],fun _=>rfl,trivial⟩⟩ ?_
   rintro v H R js4 (⟨_,rfl,rfl,uu,rfl⟩|⟨he,_⟩)
   rotate_left
   ·exfalso;exact he2 he
   cbv;(repeat refine And.intro (fun _=>rfl) ?_);rw[hv2 he2];cbv;(repeat refine And.intro (fun _=>rfl) ?_);refine⟨[1,2,3],[0,1,2,3],.tup [.val (.slice none 0 0),.agg [.val (.slice none 0 0),.val (.slice none 0 0),.val (.slice none 0 0)],.int .i64 e2],[.ro .u8 b,.bufA 79 3 N0 (fun m=>[.int .u8 (A0 m),.int .u8 (B0 m),.int .u16 (C0 m)]) c0',.bufA 79 3 N1 (fun m=>[.int .u8 (A1 m),.int .u8 (B1 m),.int .u16 (C1 m)]) c1',.bufA 79 3 n2 (fun m=>[.int .u8 (a2 m),.int .u8 (b2 m),.int .u16 (d2 m)]) k2],rfl,rfl,rfl,rfl,rfl,?_,?_⟩
   ·exact⟨rfl,rfl,fun _=>rfl,rfl,fun _=>rfl,rfl,fun _=>rfl,trivial⟩
   ·exact hE e2 (hfe2 he2) he2 _ _ _ _ _ _ _ _ _ _ _ _ _ _ _
  subst he2;clear hfe2 hv2;obtain⟨hT2',hN2,hus2,hus2'⟩:=kcl hT2 kcO (by decide) hqy2 hr2;obtain⟨u3,hu3⟩:∃x:Nat,x=u-1+1+us0.toNat+us1.toNat+us2.toNat:=⟨_,rfl⟩;obtain⟨at3,at3e⟩:∃x:Int,x=u3:=⟨_,rfl⟩;have hadd3:vb .add .i64 at2 us2=at3:=by rw[qb,at3e,hu3];have:=ku (x:=at2) (y:=us2) (by omega) (by omega);rw[this];omega
  have hto3:vtoN at3=u3:=by simp only[qtoN];omega
  have hin3:0≤at3∧at3≤(bl:Int):=by omega
  have hub3:u3≤b.length:=by omega
  obtain⟨q3,hq3⟩:∃q,q=b.drop u3:=⟨_,rfl⟩;obtain⟨ql3,hql3⟩:∃q,q=q3.length:=⟨_,rfl⟩;have hqlb3:ql3=bl-u3:=by rw[hql3,hq3,List.length_drop,hbl]
  have hsb3:vsubN bl u3=ql3:=by simp only[qsubN];exact hqlb3.symm
  obtain⟨sc3,hsc3⟩:∃s,s=vsubN cap u3:=⟨_,rfl⟩;obtain⟨cu3,hcu3⟩:∃s,s=vcutN 0 u3 cap:=⟨_,rfl⟩;have hvw3:qp cu3 q3 b:=by rw[hcu3,hq3,qcutN];exact ka5 b u3 cap (by omega) (by omega)
  have hqy3:∀x∈q3,isByte x:=fun x hx=>hby x (by rw[hq3] at hx;exact List.mem_of_mem_drop hx)
  have hqn3:q3.length≤140737488355328:=by omega
  have hSq:=kqB hlen hH hnn hau hw40 hr0' hr1' hr2';rw[←hSR,←hu3,←hq3] at hSq;by_cases hlz:q3.getLastD 0=0
  ·have hnb:=hnewb q3 sc3 hlz (by omega);rw[←hql3] at hnb;have hfe:SR.1=11:=by rw[hSq];exact kl5 hlz
   refine ka (ρ:=[]) hk ⟨by rfl,by rfl,by rfl,by cbv;exact⟨fun _=>rfl,fun _=>rfl,fun _=>rfl,trivial⟩⟩ ?_
   rintro v H R js2 ⟨rfl,c,rfl,rfl⟩;cbv;(repeat refine And.intro (fun _=>rfl) ?_);refine WX.unr 4 hw hm ?_
   cbv;rw[e01,e02,hto0];refine⟨⟨by decide⟩,⟨hin0⟩,?_⟩
   rw[hsb0,←hsc0,←hcu0];refine kE hw hm f60 (by rfl) ?_
   cbv;(repeat refine And.intro (fun _=>rfl) ?_);intro js3;cbv;refine ka (ρ:=[(19,.z),(0,.n cu0),(1,.z),(6,.z),(7,.z),(8,.z),(9,.z),(10,.z),(11,.z),(12,.z),(13,.z),(14,.z),(15,.z),(16,.z),(17,.z),(18,.z)]) (ht0 c) ⟨by rfl,by rfl,by rfl,by cbv;(repeat refine And.intro (fun _=>rfl) ?_);exact⟨hvw0,by simp only[renL3,and_self],fun _=>rfl,trivial⟩⟩ ?_
   rintro v H R js4 (⟨he,_⟩|⟨_,rfl,cp0,c0',rfl,rfl⟩)
   ·exfalso;exact he rfl
   cbv;(repeat refine And.intro (fun _=>rfl) ?_);simp only[renL3];rw[h00];cbv;(repeat refine And.intro (fun _=>rfl) ?_);refine kE hw hm f60 (by rfl) ?_
   cbv;(repeat refine And.intro (fun _=>rfl) ?_);intro js5;cbv;rw[hadd1,e11,e12,hto1];refine⟨⟨by decide⟩,⟨hin1⟩,?_⟩
   rw[hsb1,←hsc1,←hcu1];refine kE hw hm f63 (by rfl) ?_
   cbv;(repeat refine And.intro (fun _=>rfl) ?_);intro js3;cbv;refine ka (ρ:=[(19,.z),(0,.n cu1),(2,.z),(6,.z),(7,.z),(8,.z),(9,.z),(10,.z),(11,.z),(12,.z),(13,.z),(14,.z),(15,.z),(16,.z),(17,.z),(18,.z)]) (ht1 c) ⟨by rfl,by rfl,by rfl,by cbv;(repeat refine And.intro (fun _=>rfl) ?_);exact⟨hvw1,by simp only[renL3,and_self],fun _=>rfl,trivial⟩⟩ ?_
   rintro v H R js4 (⟨he,_⟩|⟨_,rfl,cp1,c1',rfl,rfl⟩)
   ·exfalso;exact he rfl
   cbv;(repeat refine And.intro (fun _=>rfl) ?_);simp only[renL3];rw[h00];cbv;(repeat refine And.intro (fun _=>rfl) ?_);refine kE hw hm f63 (by rfl) ?_
   cbv;(repeat refine And.intro (fun _=>rfl) ?_);intro js5;cbv;rw[hadd2,e21,e22,hto2];refine⟨⟨by decide⟩,⟨hin2⟩,?_⟩
   rw[hsb2,←hsc2,←hcu2];refine kE hw hm f62 (by rfl) ?_
   cbv;(repeat refine And.intro (fun _=>rfl) ?_);intro js3;cbv;refine ka (ρ:=[(19,.z),(0,.n cu2),(3,.z),(6,.z),(7,.z),(8,.z),(9,.z),(10,.z),(11,.z),(12,.z),(13,.z),(14,.z),(15,.z),(16,.z),(17,.z),(18,.z)]) (ht2 c) ⟨by rfl,by rfl,by rfl,by cbv;(repeat refine And.intro (fun _=>rfl) ?_);exact⟨hvw2,by simp only[renL3,and_self],fun _=>rfl,trivial⟩⟩ ?_
   rintro v H R js4 (⟨he,_⟩|⟨_,rfl,cp2,c2',rfl,rfl⟩)
   ·exfalso;exact he rfl
   cbv;(repeat refine And.intro (fun _=>rfl) ?_);simp only[renL3];rw[h00];cbv;(repeat refine And.intro (fun _=>rfl) ?_);refine kE hw hm f62 (by rfl) ?_
   cbv;(repeat refine And.intro (fun _=>rfl) ?_);intro js5;cbv;rw[hadd3,hto3];refine⟨⟨hin3⟩,?_⟩
   rw[hsb3,←hsc3,←hcu3];refine ka (ρ:=[(0,.n cu3)]) hnb ⟨by rfl,by rfl,by rfl,by cbv;(repeat refine And.intro (fun _=>rfl) ?_);exact⟨hvw3,trivial⟩⟩ ?_
   rintro v H R js6 ⟨rfl,rfl,rfl⟩;cbv;(repeat refine And.intro (fun _=>rfl) ?_);refine⟨[1,2,3],[0,1,2,3],.tup [.val (.slice none 0 0),.agg [.val (.slice none 0 0),.val (.slice none 0 0),.val (.slice none 0 0)],.lit .i64 11],[.ro .u8 b,.bufA 79 3 N0 (fun m=>[.int .u8 (A0 m),.int .u8 (B0 m),.int .u16 (C0 m)]) c0',.bufA 79 3 N1 (fun m=>[.int .u8 (A1 m),.int .u8 (B1 m),.int .u16 (C1 m)]) c1',.bufA 79 3 N2 (fun m=>[.int .u8 (A2 m),.int .u8 (B2 m),.int .u16 (C2 m)]) c2'],rfl,rfl,rfl,rfl,rfl,?_,?_⟩
   ·exact⟨rfl,rfl,fun _=>rfl,rfl,fun _=>rfl,rfl,fun _=>rfl,trivial⟩
   ·exact hE 11 hfe (by decide) _ _ _ _ _ _ _ _ _ _ _ _ _ _ _
  obtain⟨lg0,hNl0,hlgm0,hcell0⟩:=hT0'.resolve_left hN0;have hNl0:N0=2^lg0:=hNl0;have hl20:Nat.log2 N0=lg0:=by rw[hNl0];exact Nat.log2_two_pow
  have hNp0:(2:Int)^lg0=N0:=by rw[hNl0];push_cast;rfl
  have hNb0:N0≤4096:=by rw[hNl0];exact Nat.le_trans (Nat.pow_le_pow_right (by decide) hlgm0) (by decide)
  have hlg0:=fun cp A B C=>hlog lg0 N0 cp A B C hNl0 hlgm0
  obtain⟨lI0,hlI0⟩:∃x:Int,x=lg0:=⟨_,rfl⟩;obtain⟨lg1,hNl1,hlgm1,hcell1⟩:=hT1'.resolve_left hN1;have hNl1:N1=2^lg1:=hNl1;have hl21:Nat.log2 N1=lg1:=by rw[hNl1];exact Nat.log2_two_pow
  have hNp1:(2:Int)^lg1=N1:=by rw[hNl1];push_cast;rfl
  have hNb1:N1≤4096:=by rw[hNl1];exact Nat.le_trans (Nat.pow_le_pow_right (by decide) hlgm1) (by decide)
  have hlg1:=fun cp A B C=>hlog lg1 N1 cp A B C hNl1 hlgm1
  obtain⟨lI1,hlI1⟩:∃x:Int,x=lg1:=⟨_,rfl⟩;obtain⟨lg2,hNl2,hlgm2,hcell2⟩:=hT2'.resolve_left hN2;have hNl2:N2=2^lg2:=hNl2;have hl22:Nat.log2 N2=lg2:=by rw[hNl2];exact Nat.log2_two_pow
  have hNp2:(2:Int)^lg2=N2:=by rw[hNl2];push_cast;rfl
  have hNb2:N2≤4096:=by rw[hNl2];exact Nat.le_trans (Nat.pow_le_pow_right (by decide) hlgm2) (by decide)
  have hlg2:=fun cp A B C=>hlog lg2 N2 cp A B C hNl2 hlgm2
  obtain⟨lI2,hlI2⟩:∃x:Int,x=lg2:=⟨_,rfl⟩;have hcell0:∀k,k<N0→0≤A0 k∧A0 k≤35∧0≤B0 k∧B0 k≤12∧0≤C0 k∧C0 k+2^(B0 k).toNat≤N0:=hcell0;have hcell1:∀k,k<N1→0≤A1 k∧A1 k≤31∧0≤B1 k∧B1 k≤12∧0≤C1 k∧C1 k+2^(B1 k).toNat≤N1:=hcell1;have hcell2:∀k,k<N2→0≤A2 k∧A2 k≤52∧0≤B2 k∧B2 k≤12∧0≤C2 k∧C2 k+2^(B2 k).toNat≤N2:=hcell2;obtain⟨p0,hp0⟩:∃p,p=jd q3:=⟨_,rfl⟩;have hng:=hnewg q3 sc3 hlz hqy3 hqn3;rw[show(8*((q3.length:Int)-1)+(len8 (q3.getLastD 0)-1))=p0 from hp0.symm,←hql3] at hng;obtain⟨P0,hP0,hP1,_⟩:=kbU q3 hlz hqy3;have hp0r:0≤p0∧p0≤8*(ql3:Int):=by rw[hp0,hP0];omega
  have hbits':∀(cq:Nat) (p pn kI x:Int) (k:Nat),kI=k→k≤40 → -1000000000≤p→p≤8*(ql3:Int)→pn=p-kI→x=rd q3 p k→Con P 36 [.ptr 0 .z 2 0,.int .i64 kI] [.one 143 [.slice 1 .z 1 ql3 cq,.int .i64 p],.ro .u8 q3] (fun v H R=>v=.int .u64 x∧R=[]∧H=[.one 143 [.slice 1 .z 1 ql3 cq,.int .i64 pn],.ro .u8 q3]):=by
   intro cq p pn kI x k h1 h2 h3 h4 h5 h6;have hc:=hbits q3 cq p kI hqy3 (by omega) (by omega);have e1:jO kI=k:=by unfold jO;(repeat' split)<;>omega
   have e2:qD (p-(jO kI:Int))=pn:=by rw[e1];unfold qD;rw[if_neg (by omega)];omega
   rw[e2,e1,←h6,←hql3] at hc;exact hc
  obtain⟨s0,hs0⟩:∃x,x=rd q3 p0 lg0:=⟨_,rfl⟩;have hsr0:0≤s0∧s0<N0:=by have:=jg q3 p0 lg0;rw[hs0,←hNp0];exact this
  have hws0:vw .i64 s0=s0:=by rw[qw];exact wrap_i64 (by omega) (by omega)
  obtain⟨p1,hp1⟩:∃x,x=p0-lI0:=⟨_,rfl⟩;have hbs0:=fun cq=>hbits' cq p0 p1 lI0 s0 lg0 hlI0 (by omega) (by omega) (by omega) hp1 hs0
  obtain⟨s1,hs1⟩:∃x,x=rd q3 p1 lg1:=⟨_,rfl⟩;have hsr1:0≤s1∧s1<N1:=by have:=jg q3 p1 lg1;rw[hs1,←hNp1];exact this
  have hws1:vw .i64 s1=s1:=by rw[qw];exact wrap_i64 (by omega) (by omega)
  obtain⟨p2,hp2⟩:∃x,x=p1-lI1:=⟨_,rfl⟩;have hbs1:=fun cq=>hbits' cq p1 p2 lI1 s1 lg1 hlI1 (by omega) (by omega) (by omega) hp2 hs1
  obtain⟨s2,hs2⟩:∃x,x=rd q3 p2 lg2:=⟨_,rfl⟩;have hsr2:0≤s2∧s2<N2:=by have:=jg q3 p2 lg2;rw[hs2,←hNp2];exact this
  have hws2:vw .i64 s2=s2:=by rw[qw];exact wrap_i64 (by omega) (by omega)
  obtain⟨p3,hp3⟩:∃x,x=p2-lI2:=⟨_,rfl⟩;have hbs2:=fun cq=>hbits' cq p2 p3 lI2 s2 lg2 hlI2 (by omega) (by omega) (by omega) hp3 hs2
  have hr3:vrep 3 0=[0,0,0]:=by rw[qrep];rfl
  have hl3:∀x y z:Int,vln [x,y,z]=3:=fun x y z=>by rw[qln];rfl
  have hst0:∀x y z w:Int,vst [x,y,z] 0 w=[w,y,z]:=fun x y z w=>by rw[qst];rfl
  have hgd0:∀x y z:Int,vgd [x,y,z] 0=x:=fun x y z=>by rw[qgd];rfl
  have hst1:∀x y z w:Int,vst [x,y,z] 1 w=[x,w,z]:=fun x y z w=>by rw[qst];rfl
  have hgd1:∀x y z:Int,vgd [x,y,z] 1=y:=fun x y z=>by rw[qgd];rfl
  have hst2:∀x y z w:Int,vst [x,y,z] 2 w=[x,y,w]:=fun x y z w=>by rw[qst];rfl
  have hgd2:∀x y z:Int,vgd [x,y,z] 2=z:=fun x y z=>by rw[qgd];rfl
  obtain⟨⟨LS,Q⟩,hRR⟩:∃r,kay q3 ⟨N0,A0,B0,C0⟩ ⟨N1,A1,B1,C1⟩ ⟨N2,A2,B2,C2⟩ n.toNat s0 s1 s2 p3 []=r:=⟨_,rfl⟩;obtain⟨hQ1,hQ0⟩:=kl6 hlz hp0 hl20 hl21 hl22 hlI0 hlI1 hlI2 hs0 hp1 hs1 hp2 hs2 hp3 hRR;rw[←hSq] at hQ1 hQ0;have hstart:n=(n.toNat:Int)∧1≤n.toNat∧0+n.toNat≤100000 ∧ -1000*(100001-(n.toNat:Int))≤p3∧p3≤8*(q3.length:Int):=by omega
  have hadd1':∀i,vaddN i 1=i+1:=fun i=>by simp only[qaddN]
  have hpv:∀x,vc .neq x 0=true↔x≠0:=fun x=>by rw[qc];exact kz
  have hpe:∀x,vc .eql x 0=decide (x=0):=fun x=>by rw[qc];rfl
  have hpn:∀x,vc .neq x 0=decide (x≠0):=fun x=>by rw[qc];by_cases h:x=0<;>simp[cV,h]
  have hws64:∀x:Int,0≤x∧x≤1000000000000→vw .i64 x=x:=fun x hx=>by rw[qw];exact wrap64 hx
  have hsub1:∀(x y:Int) (m:Nat),x=m→y=x-1→1≤m→m≤100000→vb .sub .i64 x 1=y:=fun x y m h1 h2 h3 h4=>by rw[qb,h2];exact kJ (by omega) (by omega)
  have hfits:∀l m:Nat,l+m≤100000→1≤m→(l+1)*24≤140737488355328:=fun l m h1 h2=>by omega
  refine ka (ρ:=[]) hk ⟨by rfl,by rfl,by rfl,by cbv;exact⟨fun _=>rfl,fun _=>rfl,fun _=>rfl,trivial⟩⟩ ?_
  rintro v H R js2 ⟨rfl,c,rfl,rfl⟩;cbv;(repeat refine And.intro (fun _=>rfl) ?_);refine WX.unr 4 hw hm ?_
  cbv;rw[e01,e02,hto0];refine⟨⟨by decide⟩,⟨hin0⟩,?_⟩
  rw[hsb0,←hsc0,←hcu0];refine kE hw hm f60 (by rfl) ?_
  cbv;(repeat refine And.intro (fun _=>rfl) ?_);intro js3;cbv;refine ka (ρ:=[(19,.z),(0,.n cu0),(1,.z),(6,.z),(7,.z),(8,.z),(9,.z),(10,.z),(11,.z),(12,.z),(13,.z),(14,.z),(15,.z),(16,.z),(17,.z),(18,.z)]) (ht0 c) ⟨by rfl,by rfl,by rfl,by cbv;(repeat refine And.intro (fun _=>rfl) ?_);exact⟨hvw0,by simp only[renL3,and_self],fun _=>rfl,trivial⟩⟩ ?_
  rintro v H R js4 (⟨he,_⟩|⟨_,rfl,cp0,c0',rfl,rfl⟩)
  ·exfalso;exact he rfl
  cbv;(repeat refine And.intro (fun _=>rfl) ?_);simp only[renL3];rw[h00];cbv;(repeat refine And.intro (fun _=>rfl) ?_);refine kE hw hm f60 (by rfl) ?_
  cbv;(repeat refine And.intro (fun _=>rfl) ?_);intro js5;cbv;rw[hadd1,e11,e12,hto1];refine⟨⟨by decide⟩,⟨hin1⟩,?_⟩
  rw[hsb1,←hsc1,←hcu1];refine kE hw hm f63 (by rfl) ?_
  cbv;(repeat refine And.intro (fun _=>rfl) ?_);intro js3;cbv;refine ka (ρ:=[(19,.z),(0,.n cu1),(2,.z),(6,.z),(7,.z),(8,.z),(9,.z),(10,.z),(11,.z),(12,.z),(13,.z),(14,.z),(15,.z),(16,.z),(17,.z),(18,.z)]) (ht1 c) ⟨by rfl,by rfl,by rfl,by cbv;(repeat refine And.intro (fun _=>rfl) ?_);exact⟨hvw1,by simp only[renL3,and_self],fun _=>rfl,trivial⟩⟩ ?_
  rintro v H R js4 (⟨he,_⟩|⟨_,rfl,cp1,c1',rfl,rfl⟩)
  ·exfalso;exact he rfl
  cbv;(repeat refine And.intro (fun _=>rfl) ?_);simp only[renL3];rw[h00];cbv;(repeat refine And.intro (fun _=>rfl) ?_);refine kE hw hm f63 (by rfl) ?_
  cbv;(repeat refine And.intro (fun _=>rfl) ?_);intro js5;cbv;rw[hadd2,e21,e22,hto2];refine⟨⟨by decide⟩,⟨hin2⟩,?_⟩
  rw[hsb2,←hsc2,←hcu2];refine kE hw hm f62 (by rfl) ?_
  cbv;(repeat refine And.intro (fun _=>rfl) ?_);intro js3;cbv;refine ka (ρ:=[(19,.z),(0,.n cu2),(3,.z),(6,.z),(7,.z),(8,.z),(9,.z),(10,.z),(11,.z),(12,.z),(13,.z),(14,.z),(15,.z),(16,.z),(17,.z),(18,.z)]) (ht2 c) ⟨by rfl,by rfl,by rfl,by cbv;(repeat refine And.intro (fun _=>rfl) ?_);exact⟨hvw2,by simp only[renL3,and_self],fun _=>rfl,trivial⟩⟩ ?_
  rintro v H R js4 (⟨he,_⟩|⟨_,rfl,cp2,c2',rfl,rfl⟩)
  ·exfalso;exact he rfl
  cbv;(repeat refine And.intro (fun _=>rfl) ?_);simp only[renL3];rw[h00];cbv;(repeat refine And.intro (fun _=>rfl) ?_);refine kE hw hm f62 (by rfl) ?_
  cbv;(repeat refine And.intro (fun _=>rfl) ?_);intro js5;cbv;rw[hadd3,hto3];refine⟨⟨hin3⟩,?_⟩
  rw[hsb3,←hsc3,←hcu3];refine ka (ρ:=[(0,.n cu3)]) hng ⟨by rfl,by rfl,by rfl,by cbv;(repeat refine And.intro (fun _=>rfl) ?_);exact⟨hvw3,trivial⟩⟩ ?_
  rintro v H R js6 ⟨rfl,rfl,cq,rfl⟩;cbv;(repeat refine And.intro (fun _=>rfl) ?_);rw[hr3];refine WX.unr 4 hw hm ?_
  cbv;refine⟨⟨by decide⟩,?_⟩
  refine kE hw hm f60 (by rfl) ?_
  cbv;(repeat refine And.intro (fun _=>rfl) ?_);intro js7;cbv;refine ka (ρ:=[(1,.z)]) (hlg0 _ A0 B0 C0) ⟨by rfl,by rfl,by rfl,by cbv;(repeat' first|(refine And.intro ?_ ?_)|exact trivial|exact⟨Nat.le_refl _⟩|exact kb _|exact fun _=>rfl|(simp only[renL3];done)|(show SB.roA _ _ _=SB.roA _ _ _;rfl)|exact funext fun _=>rfl)⟩ ?_
  rintro v H R js8 ⟨⟨ki,hki,rfl⟩,rfl,rfl⟩;obtain rfl:ki=lI0:=hki.trans hlI0.symm;cbv;(repeat refine And.intro (fun _=>rfl) ?_);refine ka (ρ:=[(21,.z),(20,.z)]) (hbs0 cq) ⟨by rfl,by rfl,by rfl,by cbv;(repeat' first|(refine And.intro ?_ ?_)|exact trivial|exact⟨Nat.le_refl _⟩|exact kb _|exact fun _=>rfl|(simp only[renL3];done)|(show SB.roA _ _ _=SB.roA _ _ _;rfl)|exact funext fun _=>rfl)⟩ ?_
  rintro v H R js9 ⟨rfl,rfl,rfl⟩;cbv;(repeat refine And.intro (fun _=>rfl) ?_);rw[hws0];refine⟨⟨by decide⟩,⟨by rw[hl3];decide⟩,?_⟩
  rw[hst0];cbv;refine⟨⟨by decide⟩,?_⟩
  refine kE hw hm f63 (by rfl) ?_
  cbv;(repeat refine And.intro (fun _=>rfl) ?_);intro js7;cbv;refine ka (ρ:=[(2,.z)]) (hlg1 _ A1 B1 C1) ⟨by rfl,by rfl,by rfl,by cbv;(repeat' first|(refine And.intro ?_ ?_)|exact trivial|exact⟨Nat.le_refl _⟩|exact kb _|exact fun _=>rfl|(simp only[renL3];done)|(show SB.roA _ _ _=SB.roA _ _ _;rfl)|exact funext fun _=>rfl)⟩ ?_
  rintro v H R js8 ⟨⟨ki,hki,rfl⟩,rfl,rfl⟩;obtain rfl:ki=lI1:=hki.trans hlI1.symm;cbv;(repeat refine And.intro (fun _=>rfl) ?_);refine ka (ρ:=[(21,.z),(20,.z)]) (hbs1 cq) ⟨by rfl,by rfl,by rfl,by cbv;(repeat' first|(refine And.intro ?_ ?_)|exact trivial|exact⟨Nat.le_refl _⟩|exact kb _|exact fun _=>rfl|(simp only[renL3];done)|(show SB.roA _ _ _=SB.roA _ _ _;rfl)|exact funext fun _=>rfl)⟩ ?_
  rintro v H R js9 ⟨rfl,rfl,rfl⟩;cbv;(repeat refine And.intro (fun _=>rfl) ?_);rw[hws1];refine⟨⟨by decide⟩,⟨by rw[hl3];decide⟩,?_⟩
  rw[hst1];cbv;refine⟨⟨by decide⟩,?_⟩
  refine kE hw hm f62 (by rfl) ?_
  cbv;(repeat refine And.intro (fun _=>rfl) ?_);intro js7;cbv;refine ka (ρ:=[(3,.z)]) (hlg2 _ A2 B2 C2) ⟨by rfl,by rfl,by rfl,by cbv;(repeat' first|(refine And.intro ?_ ?_)|exact trivial|exact⟨Nat.le_refl _⟩|exact kb _|exact fun _=>rfl|(simp only[renL3];done)|(show SB.roA _ _ _=SB.roA _ _ _;rfl)|exact funext fun _=>rfl)⟩ ?_
  rintro v H R js8 ⟨⟨ki,hki,rfl⟩,rfl,rfl⟩;obtain rfl:ki=lI2:=hki.trans hlI2.symm;cbv;(repeat refine And.intro (fun _=>rfl) ?_);refine ka (ρ:=[(21,.z),(20,.z)]) (hbs2 cq) ⟨by rfl,by rfl,by rfl,by cbv;(repeat' first|(refine And.intro ?_ ?_)|exact trivial|exact⟨Nat.le_refl _⟩|exact kb _|exact fun _=>rfl|(simp only[renL3];done)|(show SB.roA _ _ _=SB.roA _ _ _;rfl)|exact funext fun _=>rfl)⟩ ?_
  rintro v H R js9 ⟨rfl,rfl,rfl⟩;cbv;(repeat refine And.intro (fun _=>rfl) ?_);rw[hws2];refine⟨⟨by decide⟩,⟨by rw[hl3];decide⟩,?_⟩
  rw[hst2];cbv;clear hbs0 hbs1 hbs2 hlg0 hlg1 hlg2 hng hr0' hr1' hr2' hr0 hr1 hr2 ht0 ht1 ht2 hk htab0 htab1 htab2 hnewb hnewg hlog hT0 hT1 hT2 e01 e02 e11 e12 e21 e22 hvw0 hvw1 hvw2 hvw3;refine WX.cv (Cv.nilTA 4 3 24 (fun m=>[.int .i64 0,.int .i64 0,.int .i64 0]) (by rfl) (by cbv;(repeat' first|(refine And.intro ?_ ?_)|exact trivial|exact⟨Nat.le_refl _⟩|exact kb _|exact fun _=>rfl|(simp only[renL3];done)|(show SB.roA _ _ _=SB.roA _ _ _;rfl)|exact funext fun _=>rfl)) (Cv.here ?_))
  cbv;refine kG (α:=Int×Int×Int×Int×Int×Nat×Nat×(Nat→Int)×(Nat→Int)×(Nat→Int)×List (Int×Int×Int)) [1018009,1169078] [23,3,2,1]
   (fun(nI,t0,t1,t2,p,ll,cl,f,g,h,ls)=>[(4,.slice 23 .z 3 ll cl),(7,.int .i64 nI)])
   (fun(nI,t0,t1,t2,p,ll,cl,f,g,h,ls)=>[(21,.one 143 [.slice 20 .z 1 ql3 cq,.int .i64 p]),(22,.ints 61 .i64 [t0,t1,t2]),(23,.bufA 24 3 ll (fun m=>[.int .i64 (f m),.int .i64 (g m),.int .i64 (h m)]) cl)])
   (fun(nI,t0,t1,t2,p,ll,cl,f,g,h,ls)=>∃m:Nat,nI=m∧1≤m∧kay q3 ⟨N0,A0,B0,C0⟩ ⟨N1,A1,B1,C1⟩ ⟨N2,A2,B2,C2⟩ m t0 t1 t2 p ls=(LS,Q)∧ll=ls.length∧ll+m≤100000 ∧
    f=(fun m=>(ls.getD m (0,0,0)).1)∧g=(fun m=>(ls.getD m (0,0,0)).2.1)∧h=(fun m=>(ls.getD m (0,0,0)).2.2)∧(0≤t0∧t0<N0)∧(0≤t1∧t1<N1)∧(0≤t2∧t2<N2) ∧ -1000*(100001-(m:Int))≤p∧p≤8*(q3.length:Int)) (fun(nI,_)=>nI.toNat) hw hm ?_ ?_
  ·refine Cv.fold [1018009,1169078] 24 [23,3,2,1] (by exact Nat.le_refl _) (by exact Nat.le_of_ble_eq_true rfl) (by rfl) (by cbv) ?_
   intro js;refine⟨(n,s0,s1,s2,p3,0,0,fun _=>0,fun _=>0,fun _=>0,[]),?_,js,rfl⟩
   exact⟨n.toNat,hstart.1,hstart.2.1,hRR,rfl,hstart.2.2.1,rfl,rfl,rfl,hsr0,hsr1,hsr2,hstart.2.2.2.1,hstart.2.2.2.2⟩
  ·rintro⟨nI,t0,t1,t2,p,ll,cl,f,g,h,ls⟩ js ⟨m,hm1,hm2,hR,hll,hlm,hf,hg,hh,ht0,ht1,ht2,hp1,hp2⟩
   as_aux_lemma=>
   cbv;(repeat refine And.intro (fun _=>rfl) ?_);rw[hr3];refine kiQ hcell0 hcell1 hcell2 hNb0 hNb1 hNb2 hm1 hm2 hR (by rw[←hll];exact hlm) ht0 ht1 ht2 hp1 hp2 (fun kL kM kB aL aM aB xbL xbM xbB xcL xcM xcB fL nL fM nM fB nB xL xM xB vL vM vB pa pb pc y0 y1 y2 u0 u1 u2 pd pe pf n1 ls1 f1 g1 h1 SL SB SM eL eM eB VB VM VL Y0 Y2 Y1 hn1' hf1 hg1 hh1 hls1 hlast hmore=>?_)
   have htiL:vtoN t0=kL:=by simp only[qtoN];have:=SL.tk;omega
   have hlaL:vaddN 0 kL<N0:=by rw[hadd0];exact SL.lt
   have hwaL:vw .i64 aL=aL:=by rw[qw];exact wrap64 SL.aw
   have hwxL:vw .i64 xL=xL:=by rw[qw];exact wrap64 VL.xw
   have hwvL:vb .add .i64 fL xL=vL:=by rw[qb,VL.v];exact kgD VL.fw VL.xw
   have hbtL:=fun cq=>hbits' cq pb pc nL xL _ VL.nk VL.k40 VL.pr (by rw[hql3];exact VL.pr2) VL.p2 VL.xr
   have ht0L:=SL.ir;have hltL:=SL.lt;have heaL:=SL.ea;have htiB:vtoN t1=kB:=by simp only[qtoN];have:=SB.tk;omega
   have hlaB:vaddN 0 kB<N1:=by rw[hadd0];exact SB.lt
   have hwaB:vw .i64 aB=aB:=by rw[qw];exact wrap64 SB.aw
   have hwxB:vw .i64 xB=xB:=by rw[qw];exact wrap64 VB.xw
   have hwvB:vb .add .i64 fB xB=vB:=by rw[qb,VB.v];exact kgD VB.fw VB.xw
   have hbtB:=fun cq=>hbits' cq p pa nB xB _ VB.nk VB.k40 VB.pr (by rw[hql3];exact VB.pr2) VB.p2 VB.xr
   have ht0B:=SB.ir;have hltB:=SB.lt;have heaB:=SB.ea;have htiM:vtoN t2=kM:=by simp only[qtoN];have:=SM.tk;omega
   have hlaM:vaddN 0 kM<N2:=by rw[hadd0];exact SM.lt
   have hwaM:vw .i64 aM=aM:=by rw[qw];exact wrap64 SM.aw
   have hwxM:vw .i64 xM=xM:=by rw[qw];exact wrap64 VM.xw
   have hwvM:vb .add .i64 fM xM=vM:=by rw[qb,VM.v];exact kgD VM.fw VM.xw
   have hbtM:=fun cq=>hbits' cq pa pb nM xM _ VM.nk VM.k40 VM.pr (by rw[hql3];exact VM.pr2) VM.p2 VM.xr
   have ht0M:=SM.ir;have hltM:=SM.lt;have heaM:=SM.ea;refine WX.unr 4 hw hm ?_
   cbv;have hz0L:0<N0:=Nat.lt_of_le_of_lt (Nat.zero_le _) hltL;have hz0B:0<N1:=Nat.lt_of_le_of_lt (Nat.zero_le _) hltB;have hz0M:0<N2:=Nat.lt_of_le_of_lt (Nat.zero_le _) hltM;have hcofL:=hofL aL fL nL SL.ar eL;have hcofM:=hofM aM fM nM SM.ar eM;have hcofB:=hofB aB fB nB SB.ar eB;(repeat first|refine And.intro ⟨by decide⟩ ?_|refine And.intro ⟨by rw[hl3];decide⟩ ?_|refine And.intro (fun _=>rfl) ?_|refine And.intro trivial ?_);rw[hgd1];refine kE hw hm f63 (by rfl) ?_
   cbv;(repeat refine And.intro (fun _=>rfl) ?_);intro js10;cbv;rw[htiB];(repeat' first|(refine And.intro ?_ ?_)|exact trivial|exact⟨by decide⟩|exact⟨by rw[hl3];decide⟩|exact⟨ht0B⟩|exact⟨hltB⟩|exact⟨hlaB⟩|exact⟨hz0B⟩|exact congrArg (SV.int .i64) (hgd1 t0 t1 t2)|exact congrArg (SV.int .u8) heaB|exact fun _=>rfl)
   rw[heaB,hwaB];refine ka (ρ:=[]) hcofB ⟨by rfl,by rfl,by rfl,by cbv;(repeat' first|(refine And.intro ?_ ?_)|exact trivial|exact⟨Nat.le_refl _⟩|exact kb _|exact fun _=>rfl|(simp only[renL3];done)|(show SB.roA _ _ _=SB.roA _ _ _;rfl)|exact funext fun _=>rfl)⟩ ?_
   rintro v H R js11 ⟨rfl,rfl,rfl⟩;cbv;(repeat' first|(refine And.intro ?_ ?_)|exact trivial|exact⟨by decide⟩|exact⟨by rw[hl3];decide⟩|exact⟨ht0B⟩|exact⟨hltB⟩|exact⟨hlaB⟩|exact⟨hz0B⟩|exact congrArg (SV.int .i64) (hgd1 t0 t1 t2)|exact congrArg (SV.int .u8) heaB|exact fun _=>rfl)
   refine ka (ρ:=[(21,.z),(20,.z)]) (hbtB cq) ⟨by rfl,by rfl,by rfl,by cbv;(repeat' first|(refine And.intro ?_ ?_)|exact trivial|exact⟨Nat.le_refl _⟩|exact kb _|exact fun _=>rfl|(simp only[renL3];done)|(show SB.roA _ _ _=SB.roA _ _ _;rfl)|exact funext fun _=>rfl)⟩ ?_
   rintro v H R js12 ⟨rfl,rfl,rfl⟩;cbv;(repeat refine And.intro (fun _=>rfl) ?_);rw[hwxB,hwvB];refine⟨⟨by decide⟩,⟨by rw[hl3];decide⟩,?_⟩
   rw[hst1];cbv;(repeat first|refine And.intro ⟨by decide⟩ ?_|refine And.intro ⟨by rw[hl3];decide⟩ ?_|refine And.intro (fun _=>rfl) ?_|refine And.intro trivial ?_);rw[hgd2];refine kE hw hm f62 (by rfl) ?_
   cbv;(repeat refine And.intro (fun _=>rfl) ?_);intro js10;cbv;rw[htiM];(repeat' first|(refine And.intro ?_ ?_)|exact trivial|exact⟨by decide⟩|exact⟨by rw[hl3];decide⟩|exact⟨ht0M⟩|exact⟨hltM⟩|exact⟨hlaM⟩|exact⟨hz0M⟩|exact congrArg (SV.int .i64) (hgd2 t0 t1 t2)|exact congrArg (SV.int .u8) heaM|exact fun _=>rfl)
   rw[heaM,hwaM];refine ka (ρ:=[(15,.z),(18,.z),(17,.z),(16,.z),(14,.z)]) hcofM ⟨by rfl,by rfl,by rfl,by cbv;(repeat' first|(refine And.intro ?_ ?_)|exact trivial|exact⟨Nat.le_refl _⟩|exact kb _|exact fun _=>rfl|(simp only[renL3];done)|(show SB.roA _ _ _=SB.roA _ _ _;rfl)|exact funext fun _=>rfl)⟩ ?_
   rintro v H R js11 ⟨rfl,rfl,rfl⟩;cbv;(repeat' first|(refine And.intro ?_ ?_)|exact trivial|exact⟨by decide⟩|exact⟨by rw[hl3];decide⟩|exact⟨ht0M⟩|exact⟨hltM⟩|exact⟨hlaM⟩|exact⟨hz0M⟩|exact congrArg (SV.int .i64) (hgd2 t0 t1 t2)|exact congrArg (SV.int .u8) heaM|exact fun _=>rfl)
   refine ka (ρ:=[(21,.z),(20,.z)]) (hbtM cq) ⟨by rfl,by rfl,by rfl,by cbv;(repeat' first|(refine And.intro ?_ ?_)|exact trivial|exact⟨Nat.le_refl _⟩|exact kb _|exact fun _=>rfl|(simp only[renL3];done)|(show SB.roA _ _ _=SB.roA _ _ _;rfl)|exact funext fun _=>rfl)⟩ ?_
   rintro v H R js12 ⟨rfl,rfl,rfl⟩;cbv;(repeat refine And.intro (fun _=>rfl) ?_);rw[hwxM,hwvM];refine⟨⟨by decide⟩,⟨by rw[hl3];decide⟩,?_⟩
   rw[hst2];cbv;(repeat first|refine And.intro ⟨by decide⟩ ?_|refine And.intro ⟨by rw[hl3];decide⟩ ?_|refine And.intro (fun _=>rfl) ?_|refine And.intro trivial ?_);rw[hgd0];refine kE hw hm f60 (by rfl) ?_
   cbv;(repeat refine And.intro (fun _=>rfl) ?_);intro js10;cbv;rw[htiL];(repeat' first|(refine And.intro ?_ ?_)|exact trivial|exact⟨by decide⟩|exact⟨by rw[hl3];decide⟩|exact⟨ht0L⟩|exact⟨hltL⟩|exact⟨hlaL⟩|exact⟨hz0L⟩|exact congrArg (SV.int .i64) (hgd0 t0 t1 t2)|exact congrArg (SV.int .u8) heaL|exact fun _=>rfl)
   rw[heaL,hwaL];refine ka (ρ:=[(10,.z),(13,.z),(12,.z),(11,.z),(9,.z)]) hcofL ⟨by rfl,by rfl,by rfl,by cbv;(repeat' first|(refine And.intro ?_ ?_)|exact trivial|exact⟨Nat.le_refl _⟩|exact kb _|exact fun _=>rfl|(simp only[renL3];done)|(show SB.roA _ _ _=SB.roA _ _ _;rfl)|exact funext fun _=>rfl)⟩ ?_
   rintro v H R js11 ⟨rfl,rfl,rfl⟩;cbv;(repeat' first|(refine And.intro ?_ ?_)|exact trivial|exact⟨by decide⟩|exact⟨by rw[hl3];decide⟩|exact⟨ht0L⟩|exact⟨hltL⟩|exact⟨hlaL⟩|exact⟨hz0L⟩|exact congrArg (SV.int .i64) (hgd0 t0 t1 t2)|exact congrArg (SV.int .u8) heaL|exact fun _=>rfl)
   refine ka (ρ:=[(21,.z),(20,.z)]) (hbtL cq) ⟨by rfl,by rfl,by rfl,by cbv;(repeat' first|(refine And.intro ?_ ?_)|exact trivial|exact⟨Nat.le_refl _⟩|exact kb _|exact fun _=>rfl|(simp only[renL3];done)|(show SB.roA _ _ _=SB.roA _ _ _;rfl)|exact funext fun _=>rfl)⟩ ?_
   rintro v H R js12 ⟨rfl,rfl,rfl⟩;cbv;(repeat refine And.intro (fun _=>rfl) ?_);rw[hwxL,hwvL];refine⟨⟨by decide⟩,⟨by rw[hl3];decide⟩,?_⟩
   rw[hst0];cbv;have hft:=hfits ll m hlm hm2;have hef:qm f ll vL=f1:=by rw[hf,hll];exact hf1.symm
   have heg:qm g ll vM=g1:=by rw[hg,hll];exact hg1.symm
   have heh:qm h ll vB=h1:=by rw[hh,hll];exact hh1.symm
   have hsub:=hsub1 nI n1 m hm1 hn1' hm2 (Nat.le_trans (Nat.le_add_left m ll) hlm);(repeat first|refine And.intro ⟨by decide⟩ ?_|refine And.intro ⟨by rw[hl3];decide⟩ ?_|refine And.intro (fun _=>rfl) ?_|refine And.intro trivial ?_|refine And.intro ⟨Nat.le_refl _⟩ ?_|refine And.intro ⟨by rw[hadd1'];exact hft⟩ ?_);intro cl1 js13 hle13;cbv;rw[hgd0,hgd2,hgd1,hadd1',kpZ,hef,heg,heh,hsub];by_cases hone:m=1
   ·have hz1:vc .eql n1 0=true:=by rw[hpe];exact decide_eq_true (hlast hone).1
    have hlf:=hleft q3 ql3 cq pc;rw[hz1];cbv;(repeat refine And.intro (fun _=>rfl) ?_);refine ka (ρ:=[(21,.z),(20,.z)]) hlf ⟨by rfl,by rfl,by rfl,by cbv;(repeat' first|(refine And.intro ?_ ?_)|exact trivial|exact⟨Nat.le_refl _⟩|exact kb _|exact fun _=>rfl|(simp only[renL3];done)|(show SB.roA _ _ _=SB.roA _ _ _;rfl)|exact funext fun _=>rfl)⟩ ?_
    rintro v H R js14 ⟨rfl,rfl,rfl⟩;cbv;(repeat refine And.intro (fun _=>rfl) ?_);by_cases hpc:pc=0
    ·have hzp:vc .neq pc 0=false:=by rw[hpn];exact decide_eq_false (fun h=>h hpc)
     have hfin:=hQ0 ((hlast hone).2.2.trans hpc);rw[(hlast hone).2.1] at hfin;rw[hzp];cbv;(repeat refine And.intro (fun _=>rfl) ?_);refine⟨[1,2,3],[0,1,2,3,23],.tup [.slice 4 .z 3 (ll+1) cl1,.agg [.slice 1 .z 3 N0 cp0,.slice 2 .z 3 N1 cp1,.slice 3 .z 3 N2 cp2],.lit .i64 0],[.ro .u8 b,.bufA 79 3 N0 (fun m=>[.int .u8 (A0 m),.int .u8 (B0 m),.int .u16 (C0 m)]) c0',.bufA 79 3 N1 (fun m=>[.int .u8 (A1 m),.int .u8 (B1 m),.int .u16 (C1 m)]) c1',.bufA 79 3 N2 (fun m=>[.int .u8 (A2 m),.int .u8 (B2 m),.int .u16 (C2 m)]) c2',.bufA 24 3 (ll+1) (fun m=>[.int .i64 (f1 m),.int .i64 (g1 m),.int .i64 (h1 m)]) cl1],rfl,rfl,rfl,rfl,rfl,?_,?_⟩
     ·exact⟨rfl,rfl,fun _=>rfl,rfl,fun _=>rfl,rfl,fun _=>rfl,rfl,fun _=>rfl,trivial⟩
     ·exact hG ls1 N0 N1 N2 A0 B0 C0 A1 B1 C1 A2 B2 C2 hfin f1 g1 h1 (ll+1) cl1 cl1 cp0 cp1 cp2 c0' c1' c2' (by rw[hll];exact hls1.2.2.2) hls1.1 hls1.2.1 hls1.2.2.1
    ·have hzp:vc .neq pc 0=true:=by rw[hpn];exact decide_eq_true hpc
     have hfe:=hQ1 (fun h=>hpc ((hlast hone).2.2.symm.trans h));rw[hzp];cbv;(repeat refine And.intro (fun _=>rfl) ?_);refine⟨[1,2,3],[0,1,2,3],.tup [.val (.slice none 0 0),.agg [.val (.slice none 0 0),.val (.slice none 0 0),.val (.slice none 0 0)],.lit .i64 11],[.ro .u8 b,.bufA 79 3 N0 (fun m=>[.int .u8 (A0 m),.int .u8 (B0 m),.int .u16 (C0 m)]) c0',.bufA 79 3 N1 (fun m=>[.int .u8 (A1 m),.int .u8 (B1 m),.int .u16 (C1 m)]) c1',.bufA 79 3 N2 (fun m=>[.int .u8 (A2 m),.int .u8 (B2 m),.int .u16 (C2 m)]) c2'],rfl,rfl,rfl,rfl,rfl,?_,?_⟩
     ·exact⟨rfl,rfl,fun _=>rfl,rfl,fun _=>rfl,rfl,fun _=>rfl,trivial⟩
     ·exact hE 11 hfe (by decide) _ _ _ _ _ _ _ _ _ _ _ _ _ _ _
   ·have hz1:vc .eql n1 0=false:=by rw[hpe];exact decide_eq_false (hmore hone).1
    rw[hz1];cbv;(repeat refine And.intro (fun _=>rfl) ?_);refine WX.unr 4 hw hm ?_
    cbv;have hbyL:=fun cq=>hbits' cq pc pd xbL y0 _ Y0.nk Y0.k40 Y0.pr (by rw[hql3];exact Y0.pr2) Y0.p2 Y0.xr
    have hwyL:vw .i64 y0=y0:=hws64 _ Y0.xw;have hwcL:vw .i64 xcL=xcL:=hws64 _ SL.cw;have hwbL:vw .i64 xbL=xbL:=hws64 _ SL.bw;have hwuL:vb .add .i64 xcL y0=u0:=by rw[qb,Y0.v];exact kgD Y0.fw Y0.xw
    have hebL:=SL.eb;have hecL:=SL.ec;(repeat first|refine And.intro ⟨by decide⟩ ?_|refine And.intro ⟨by rw[hl3];decide⟩ ?_|refine And.intro (fun _=>rfl) ?_|refine And.intro trivial ?_);rw[hgd0];apply knM
    ·intro key;refine kE hw hm f60 (by rfl) ?_
     cbv;(repeat refine And.intro (fun _=>rfl) ?_);intro js15;cbv;rw[htiL];(repeat' first|(refine And.intro ?_ ?_)|exact trivial|exact⟨by decide⟩|exact⟨by rw[hl3];decide⟩|exact⟨ht0L⟩|exact⟨hltL⟩|exact⟨hlaL⟩|exact⟨hz0L⟩|exact congrArg (SV.int .i64) (hgd0 t0 t1 t2)|exact congrArg (SV.int .u8) heaL|exact fun _=>rfl)
     rw[hebL,hecL,hwbL,hwcL];exact key
    ·intro key;(repeat' first|(refine And.intro ?_ ?_)|exact trivial|exact⟨by decide⟩|exact⟨by rw[hl3];decide⟩|exact⟨ht0L⟩|exact⟨hltL⟩|exact⟨hlaL⟩|exact⟨hz0L⟩|exact congrArg (SV.int .i64) (hgd0 t0 t1 t2)|exact congrArg (SV.int .u8) heaL|exact fun _=>rfl)
     refine kE hw hm f60 (by rfl) ?_
     cbv;(repeat refine And.intro (fun _=>rfl) ?_);intro js15;cbv;rw[htiL];(repeat' first|(refine And.intro ?_ ?_)|exact trivial|exact⟨by decide⟩|exact⟨by rw[hl3];decide⟩|exact⟨ht0L⟩|exact⟨hltL⟩|exact⟨hlaL⟩|exact⟨hz0L⟩|exact congrArg (SV.int .i64) (hgd0 t0 t1 t2)|exact congrArg (SV.int .u8) heaL|exact fun _=>rfl)
     rw[hebL,hecL,hwbL,hwcL];exact key
    refine ka (ρ:=[(21,.z),(20,.z)]) (hbyL cq) ⟨by rfl,by rfl,by rfl,by cbv;(repeat' first|(refine And.intro ?_ ?_)|exact trivial|exact⟨Nat.le_refl _⟩|exact kb _|exact fun _=>rfl|(simp only[renL3];done)|(show SB.roA _ _ _=SB.roA _ _ _;rfl)|exact funext fun _=>rfl)⟩ ?_
    rintro v H R js16 ⟨rfl,rfl,rfl⟩;cbv;(repeat refine And.intro (fun _=>rfl) ?_);rw[hwyL,hwuL];refine⟨⟨by decide⟩,⟨by rw[hl3];decide⟩,?_⟩
    rw[hst0];cbv;have hbyM:=fun cq=>hbits' cq pd pe xbM y2 _ Y2.nk Y2.k40 Y2.pr (by rw[hql3];exact Y2.pr2) Y2.p2 Y2.xr
    have hwyM:vw .i64 y2=y2:=hws64 _ Y2.xw;have hwcM:vw .i64 xcM=xcM:=hws64 _ SM.cw;have hwbM:vw .i64 xbM=xbM:=hws64 _ SM.bw;have hwuM:vb .add .i64 xcM y2=u2:=by rw[qb,Y2.v];exact kgD Y2.fw Y2.xw
    have hebM:=SM.eb;have hecM:=SM.ec;(repeat first|refine And.intro ⟨by decide⟩ ?_|refine And.intro ⟨by rw[hl3];decide⟩ ?_|refine And.intro (fun _=>rfl) ?_|refine And.intro trivial ?_);rw[hgd2];apply knM
    ·intro key;refine kE hw hm f62 (by rfl) ?_
     cbv;(repeat refine And.intro (fun _=>rfl) ?_);intro js15;cbv;rw[htiM];(repeat' first|(refine And.intro ?_ ?_)|exact trivial|exact⟨by decide⟩|exact⟨by rw[hl3];decide⟩|exact⟨ht0M⟩|exact⟨hltM⟩|exact⟨hlaM⟩|exact⟨hz0M⟩|exact congrArg (SV.int .i64) (hgd2 u0 t1 t2)|exact congrArg (SV.int .u8) heaM|exact fun _=>rfl)
     rw[hebM,hecM,hwbM,hwcM];exact key
    ·intro key;(repeat' first|(refine And.intro ?_ ?_)|exact trivial|exact⟨by decide⟩|exact⟨by rw[hl3];decide⟩|exact⟨ht0M⟩|exact⟨hltM⟩|exact⟨hlaM⟩|exact⟨hz0M⟩|exact congrArg (SV.int .i64) (hgd2 u0 t1 t2)|exact congrArg (SV.int .u8) heaM|exact fun _=>rfl)
     refine kE hw hm f62 (by rfl) ?_
     cbv;(repeat refine And.intro (fun _=>rfl) ?_);intro js15;cbv;rw[htiM];(repeat' first|(refine And.intro ?_ ?_)|exact trivial|exact⟨by decide⟩|exact⟨by rw[hl3];decide⟩|exact⟨ht0M⟩|exact⟨hltM⟩|exact⟨hlaM⟩|exact⟨hz0M⟩|exact congrArg (SV.int .i64) (hgd2 u0 t1 t2)|exact congrArg (SV.int .u8) heaM|exact fun _=>rfl)
     rw[hebM,hecM,hwbM,hwcM];exact key
    refine ka (ρ:=[(21,.z),(20,.z)]) (hbyM cq) ⟨by rfl,by rfl,by rfl,by cbv;(repeat' first|(refine And.intro ?_ ?_)|exact trivial|exact⟨Nat.le_refl _⟩|exact kb _|exact fun _=>rfl|(simp only[renL3];done)|(show SB.roA _ _ _=SB.roA _ _ _;rfl)|exact funext fun _=>rfl)⟩ ?_
    rintro v H R js16 ⟨rfl,rfl,rfl⟩;cbv;(repeat refine And.intro (fun _=>rfl) ?_);rw[hwyM,hwuM];refine⟨⟨by decide⟩,⟨by rw[hl3];decide⟩,?_⟩
    rw[hst2];cbv;have hbyB:=fun cq=>hbits' cq pe pf xbB y1 _ Y1.nk Y1.k40 Y1.pr (by rw[hql3];exact Y1.pr2) Y1.p2 Y1.xr
    have hwyB:vw .i64 y1=y1:=hws64 _ Y1.xw;have hwcB:vw .i64 xcB=xcB:=hws64 _ SB.cw;have hwbB:vw .i64 xbB=xbB:=hws64 _ SB.bw;have hwuB:vb .add .i64 xcB y1=u1:=by rw[qb,Y1.v];exact kgD Y1.fw Y1.xw
    have hebB:=SB.eb;have hecB:=SB.ec;(repeat first|refine And.intro ⟨by decide⟩ ?_|refine And.intro ⟨by rw[hl3];decide⟩ ?_|refine And.intro (fun _=>rfl) ?_|refine And.intro trivial ?_);rw[hgd1];apply knM
    ·intro key;refine kE hw hm f63 (by rfl) ?_
     cbv;(repeat refine And.intro (fun _=>rfl) ?_);intro js15;cbv;rw[htiB];(repeat' first|(refine And.intro ?_ ?_)|exact trivial|exact⟨by decide⟩|exact⟨by rw[hl3];decide⟩|exact⟨ht0B⟩|exact⟨hltB⟩|exact⟨hlaB⟩|exact⟨hz0B⟩|exact congrArg (SV.int .i64) (hgd1 u0 t1 u2)|exact congrArg (SV.int .u8) heaB|exact fun _=>rfl)
     rw[hebB,hecB,hwbB,hwcB];exact key
    ·intro key;(repeat' first|(refine And.intro ?_ ?_)|exact trivial|exact⟨by decide⟩|exact⟨by rw[hl3];decide⟩|exact⟨ht0B⟩|exact⟨hltB⟩|exact⟨hlaB⟩|exact⟨hz0B⟩|exact congrArg (SV.int .i64) (hgd1 u0 t1 u2)|exact congrArg (SV.int .u8) heaB|exact fun _=>rfl)
     refine kE hw hm f63 (by rfl) ?_
     cbv;(repeat refine And.intro (fun _=>rfl) ?_);intro js15;cbv;rw[htiB];(repeat' first|(refine And.intro ?_ ?_)|exact trivial|exact⟨by decide⟩|exact⟨by rw[hl3];decide⟩|exact⟨ht0B⟩|exact⟨hltB⟩|exact⟨hlaB⟩|exact⟨hz0B⟩|exact congrArg (SV.int .i64) (hgd1 u0 t1 u2)|exact congrArg (SV.int .u8) heaB|exact fun _=>rfl)
     rw[hebB,hecB,hwbB,hwcB];exact key
    refine ka (ρ:=[(21,.z),(20,.z)]) (hbyB cq) ⟨by rfl,by rfl,by rfl,by cbv;(repeat' first|(refine And.intro ?_ ?_)|exact trivial|exact⟨Nat.le_refl _⟩|exact kb _|exact fun _=>rfl|(simp only[renL3];done)|(show SB.roA _ _ _=SB.roA _ _ _;rfl)|exact funext fun _=>rfl)⟩ ?_
    rintro v H R js16 ⟨rfl,rfl,rfl⟩;cbv;(repeat refine And.intro (fun _=>rfl) ?_);rw[hwyB,hwuB];refine⟨⟨by decide⟩,⟨by rw[hl3];decide⟩,?_⟩
    rw[hst1];cbv;refine Cv.fold [1018009,1169078] 24 [23,3,2,1] (by exact Nat.le_refl _) (by exact Nat.le_of_ble_eq_true rfl) (by rfl) (by cbv) ?_
    intro js17;refine⟨(n1,u0,u1,u2,pf,ll+1,cl1,f1,g1,h1,ls1),?_,js17,rfl⟩
    have hm':=hmore hone;exact⟨⟨m-1,hm'.2.2.1,hm'.2.2.2.1,hm'.2.2.2.2.1,by rw[hll];exact hls1.2.2.2,by rw[hll,hls1.2.2.2];exact hm'.2.2.2.2.2.1,hls1.1,hls1.2.1,hls1.2.2.1,hm'.2.2.2.2.2.2.1,hm'.2.2.2.2.2.2.2.1,hm'.2.2.2.2.2.2.2.2.1,hm'.2.2.2.2.2.2.2.2.2.1,hm'.2.2.2.2.2.2.2.2.2.2⟩,hm'.2.1⟩
def kOf (lits back:Int):Int:=if lits=0 then back else back-1
def dOf (a b c k:Int):Int:=if k=0 then a else if k=1 then b else if k=2 then c else bV .sub .i64 a 1
def jV (a b c lits back:Int):Int×Int×Int×Int×Int:=
 if back<1 then(0,2,a,b,c)
 else if 3<back then(bV .sub .i64 back 3,0,bV .sub .i64 back 3,a,b)
 else if dOf a b c (kOf lits back)<1 then(0,11,a,b,c)
 else(dOf a b c (kOf lits back),0,dOf a b c (kOf lits back),if kOf lits back=0 then b else a,if kOf lits back≤1 then c else b)
end Go.Proofs.Ytlclleihoampdaa
