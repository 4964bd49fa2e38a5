import Derived.Test.YtlclleihoampdaaEX
import Derived.Test.YtlclleihoampdaaED
import Derived.Test.YtlclleihoampdaaA1
import Derived.Test.YtlclleihoampdaaA2
set_option linter.unusedVariables false
set_option linter.unusedSimpArgs false
namespace Go.Proofs.Ytlclleihoampdaa
open Go Go.Sx Go.Proofs
set_option maxRecDepth 10000
set_option maxHeartbeats 4000000
theorem kfF (b:List Int) (o ql cp:Nat) (u ni:Int) :
  Con Try.prog 44 [.ptr 0 .z 3 0,.int .i64 ni] [.one 146 [.slice 1 (.n o) 1 ql cp,.int .i64 u,.val .nilFunc],.ro .u8 b]
   (fun v H R=>v=.bool (decide (ni≤(ql:Int)))∧H=[.one 146 [.slice 1 (.n o) 1 ql cp,.int .i64 u,.val .nilFunc],.ro .u8 b]∧R=[]):=by
 refine kf (kw 2 (by simp) (kg (kc kj krY ?_)))
 intro _ vc _ _ vofN _ _ _ _ _ _ _ _ _ _ _ _ _ _ _ _ hw _ qc _ _ qofN _ _ _ _ _ _ _ _ _ _ _ _ _ _ _ _;have hm:=kj;generalize Try.prog=P at *;obtain⟨qi,hqi⟩:∃qi:Int,qi=ql:=⟨_,rfl⟩;have eq:vofN ql=qi:=by simp only[qofN];exact hqi.symm
 rw[←hqi];obtain⟨r,hr⟩:∃r,r=decide (ni≤qi):=⟨_,rfl⟩;have hg:vc .geq qi ni=r:=by rw[qc,hr];rfl
 rw[←hr];cbv;refine WX.unr 3 hw hm ?_
 cbv;rw[eq];cases hl:vc .lss qi ni
 ·cbv;rw[eq,hg];cbv
 ·cbv;rw[eq,hg];cbv
theorem kbt (b:List Int) (o ql cp n o2 q2 c2:Nat) (u ni u2:Int) (hni:ni=n) (hn:n≤ql) (hcp:ql≤cp) (hu:0≤u∧u2≤9223372036854775807) (ho2:o2=if cp=n then o else o+n) (hq2:q2=ql-n) (hc2:c2=cp-n) (hu2:u2=u+ni) :
  Con Try.prog 72 [.ptr 0 .z 3 0,.int .i64 ni] [.one 146 [.slice 1 (.n o) 1 ql cp,.int .i64 u,.val .nilFunc],.ro .u8 b]
   (fun v H R=>v=.tup [.slice 1 (.n o) 1 n n,.bool true]∧H=[.one 146 [.slice 1 (.n o2) 1 q2 c2,.int .i64 u2,.val .nilFunc],.ro .u8 b]∧R=[]):=by
 have hnd:=kfF b o ql cp u ni;rw[show decide (ni≤(ql:Int))=true by simp;omega] at hnd;have ha:bV .add .i64 u ni=u2:=by rw[hu2];exact ku (by omega) (by omega)
 refine kf (kw 2 (by simp) (kg (kc kj kqc ?_)))
 intro vb _ _ vtoN _ _ vsubN _ _ vcutN _ _ _ _ _ _ _ _ _ vnotB _ _ qb _ _ qtoN _ _ qsubN _ _ qcutN _ _ _ _ _ _ _ _ _ qnotB _;have hm:=kj;generalize Try.prog=P at *;have hnt:vnotB true=false:=by rw[qnotB];rfl
 have hto:vtoN ni=n:=by rw[hni];simp only[qtoN,Int.toNat_natCast]
 have h1:0≤ni∧ni≤(cp:Int):=by omega
 have h2:0≤ni∧ni≤(n:Int):=by omega
 have h3:0≤ni∧ni≤(ql:Int):=by omega
 have e1:vcutN o n cp=o2:=by rw[qcutN,ho2]
 have e2:vsubN ql n=q2:=by simp only[qsubN];exact hq2.symm
 have e3:vsubN cp n=c2:=by simp only[qsubN];exact hc2.symm
 have e4:vb .add .i64 u ni=u2:=by rw[qb];exact ha
 clear ho2 hq2 hc2 hu2 hni;cbv;refine ka (ρ:=[(0,.z),(1,.z)]) hnd ⟨by rfl,by rfl,by rfl,by cbv;(repeat' first|(refine And.intro ?_ ?_)|exact trivial|exact⟨Nat.le_refl _⟩|exact kb _|exact fun _=>rfl|(simp only[renL3];done)|(show SB.roA _ _ _=SB.roA _ _ _;rfl)|exact funext fun _=>rfl)⟩ ?_
 rintro v H R js ⟨rfl,rfl,rfl⟩;cbv;rw[hnt];cbv;rw[hto,e1,e2,e3,e4];exact⟨⟨h1⟩,⟨h2⟩,⟨h3⟩,rfl,rfl,trivial⟩
theorem kax (b:List Int) (o ql cp:Nat) (u ni:Int) (hn:(ql:Int)<ni) :
  Con Try.prog 72 [.ptr 0 .z 3 0,.int .i64 ni] [.one 146 [.slice 1 (.n o) 1 ql cp,.int .i64 u,.val .nilFunc],.ro .u8 b]
   (fun v H R=>v=.tup [.val (.slice none 0 0),.bool false]∧H=[.one 146 [.slice 1 (.n o) 1 ql cp,.int .i64 u,.val .nilFunc],.ro .u8 b]∧R=[]):=by
 have hnd:=kfF b o ql cp u ni;rw[show decide (ni≤(ql:Int))=false by simp;omega] at hnd;refine kf (kw 2 (by simp) (kg (kc kj kqc ?_)))
 intro _ _ _ _ _ _ _ _ _ _ _ _ _ _ _ _ _ _ _ vnotB _ _ _ _ _ _ _ _ _ _ _ _ _ _ _ _ _ _ _ _ _ qnotB _;have hm:=kj;generalize Try.prog=P at *;have hnt:vnotB false=true:=by rw[qnotB];rfl
 cbv;refine ka (ρ:=[(0,.z),(1,.z)]) hnd ⟨by rfl,by rfl,by rfl,by cbv;(repeat' first|(refine And.intro ?_ ?_)|exact trivial|exact⟨Nat.le_refl _⟩|exact kb _|exact fun _=>rfl|(simp only[renL3];done)|(show SB.roA _ _ _=SB.roA _ _ _;rfl)|exact funext fun _=>rfl)⟩ ?_
 rintro v H R js ⟨rfl,rfl,rfl⟩;cbv;rw[hnt];cbv
theorem knw (b:List Int) (o ql cp:Nat) (u:Int):Con Try.prog 42 [.ptr 0 .z 3 0] [.one 146 [.slice 1 (.n o) 1 ql cp,.int .i64 u,.val .nilFunc],.ro .u8 b]
  (fun v H R=>v=.int .i64 u∧H=[.one 146 [.slice 1 (.n o) 1 ql cp,.int .i64 u,.val .nilFunc],.ro .u8 b]∧R=[]):=by
 refine kf (kw 2 (by simp) (kg (kc kj krX ?_)))
 intro _ _ _ _ _ _ _ _ _ _ _ _ _ _ _ _ _ _ _ _ _ _ _ _ _ _ _ _ _ _ _ _ _ _ _ _ _ _ _ _ _ _ _;have hm:=kj;generalize Try.prog=P at *;cbv
theorem knx (b:List Int) (o cp:Nat) (u:Int) :
  Con Try.prog 77 [.ptr 0 .z 3 0] [.one 146 [.slice 1 (.n o) 1 0 cp,.int .i64 u,.val .nilFunc],.ro .u8 b]
   (fun v H R=>v=.tup [.int .u8 0,.bool false]∧H=[.one 146 [.slice 1 (.n o) 1 0 cp,.int .i64 u,.val .nilFunc],.ro .u8 b]∧R=[]):=by
 have hnd:=kax b o 0 cp u 1 (by decide);refine kf (kw 2 (by simp) (kg (kc kj kq1 ?_)))
 intro _ _ _ _ _ _ _ _ _ _ _ _ _ _ _ _ _ _ _ vnotB _ _ _ _ _ _ _ _ _ _ _ _ _ _ _ _ _ _ _ _ _ qnotB _;have hm:=kj;generalize Try.prog=P at *;have hnt:vnotB false=true:=by rw[qnotB];rfl
 cbv;refine ka (ρ:=[(0,.z),(1,.z)]) hnd ⟨by rfl,by rfl,by rfl,by cbv;(repeat' first|(refine And.intro ?_ ?_)|exact trivial|exact⟨Nat.le_refl _⟩|exact kb _|exact fun _=>rfl|(simp only[renL3];done)|(show SB.roA _ _ _=SB.roA _ _ _;rfl)|exact funext fun _=>rfl)⟩ ?_
 rintro v H R js ⟨rfl,rfl,rfl⟩;cbv;rw[hnt];cbv
theorem koC (b:List Int) (o ql cp o2 q2 c2:Nat) (u u2 x:Int) (hn:1≤ql) (hcp:ql≤cp) (hu:0≤u∧u2≤9223372036854775807) (ho2:o2=if cp=1 then o else o+1) (hq2:q2=ql-1) (hc2:c2=cp-1) (hu2:u2=u+1) (hx:x=b.getD o 0) (hob:o<b.length) :
  Con Try.prog 77 [.ptr 0 .z 3 0] [.one 146 [.slice 1 (.n o) 1 ql cp,.int .i64 u,.val .nilFunc],.ro .u8 b]
   (fun v H R=>v=.tup [.int .u8 x,.bool true]∧H=[.one 146 [.slice 1 (.n o2) 1 q2 c2,.int .i64 u2,.val .nilFunc],.ro .u8 b]∧R=[]):=by
 have htk:=kbt b o ql cp 1 o2 q2 c2 u 1 u2 rfl hn hcp hu ho2 hq2 hc2 hu2;refine kf (kw 2 (by simp) (kg (kc kj kq1 ?_)))
 intro _ _ _ _ _ vaddN _ _ _ _ vgd _ vln _ _ _ _ _ _ vnotB _ _ _ _ _ _ _ qaddN _ _ _ _ qgd _ qln _ _ _ _ _ _ qnotB _;have hm:=kj;generalize Try.prog=P at *;have hnt:vnotB true=false:=by rw[qnotB];rfl
 have hgo:vgd b o=x:=by rw[qgd];exact hx.symm
 have hao:vaddN o 0=o:=by simp only[qaddN,Nat.add_zero]
 have hlo:o<vln b:=by rw[qln];exact hob
 clear ho2 hq2 hc2 hu2 hx;cbv;refine ka (ρ:=[(0,.z),(1,.z)]) htk ⟨by rfl,by rfl,by rfl,by cbv;(repeat' first|(refine And.intro ?_ ?_)|exact trivial|exact⟨Nat.le_refl _⟩|exact kb _|exact fun _=>rfl|(simp only[renL3];done)|(show SB.roA _ _ _=SB.roA _ _ _;rfl)|exact funext fun _=>rfl)⟩ ?_
 rintro v H R js ⟨rfl,rfl,rfl⟩;cbv;rw[hnt];cbv;rw[hao,hgo];exact⟨⟨by decide,by decide⟩,⟨hlo⟩,⟨hlo⟩,rfl,trivial⟩
theorem kbu (b:List Int) (cap:Nat) (hb:∀c∈b,kF c) (hl:b.length≤8) :
  Con Try.prog 75 [.slice 0 .z 1 b.length cap] [.ro .u8 b] (fun v H R=>v=.int .u64 (kV b b.length)∧H=[.ro .u8 b]∧R=[]):=by
 refine kf (kw 1 (by simp) (kg (kc kj ksc ?_)))
 intro vb vc vw vtoN vofN vaddN _ _ _ _ vgd _ vln _ _ _ _ _ _ _ _ hw qb qc qw qtoN qofN qaddN _ _ _ _ qgd _ qln _ _ _ _ _ _ _ _;have hm:=kj;generalize Try.prog=P at *;have hge:=jB hb;have hr:=kY hb;have hn0:kV b 0=0:=rfl;have hns:∀i,kV b (i+1)=kV b i+b.getD i 0*2^(8*i):=fun _=>rfl
 have h64:=@kiB;generalize kV b=NA at *;generalize hbl:b.length=n at *;have hvln:vln b=n:=by simp only[qln,hbl]
 have hvgd:∀i,vgd b i=b.getD i 0:=fun i=>by simp only[qgd]
 have hto:∀i:Nat,vtoN (i:Int)=i:=fun i=>by simp only[qtoN,Int.toNat_natCast]
 have hadd0:∀i,vaddN 0 i=i:=fun i=>by simp only[qaddN,Nat.zero_add]
 obtain⟨nI,hnI⟩:∃nI:Int,nI=n:=⟨_,rfl⟩;have en:vofN n=nI:=by rw[hnI,qofN]
 cbv;simp only[nc] at *;rw[en];refine kG (α:=Int×Int) ([4,5]++[9,10,11,12,13,14,15,16,17,18,19,20,21]) [] (fun(k,s)=>[(8,.int .i64 k),(3,.int .u64 s)]) (fun _=>[])
  (fun(k,s)=>∃i:Nat,k=i∧i≤n∧s=NA i) (fun(k,_)=>n-k.toNat) hw hm ?_ ?_
 ·refine Cv.genAt [8,3] [] (Cv.fold ([4,5]++[9,10,11,12,13,14,15,16,17,18,19,20,21]) 1 [] (by exact Nat.le_refl _) (by exact Nat.le_of_ble_eq_true rfl) (by rfl) (by cbv) ?_)
  intro js;refine⟨(_,_),?_,js,rfl⟩
  exact⟨0,rfl,by((try simp only[nc] at *);omega),hn0.symm⟩
 ·rintro⟨k,s⟩ js ⟨i,hk,hi,hs⟩;cbv;generalize hz4:vc .lss k nI=z4;cases z4
  rotate_left
  ·rw[qc,ko] at hz4;have hlt:i<n:=by((try simp only[nc] at *);omega)
   have hti:vtoN k=i:=by rw[hk];exact hto i
   have hinR:0≤k∧k<(n:Int):=by((try simp only[nc] at *);omega)
   obtain⟨k1,hk1⟩:∃k1:Int,k1=((i+1:Nat):Int):=⟨_,rfl⟩;have ek:vb .add .i64 k 1=k1:=by rw[qb,ku (by((try simp only[nc] at *);omega)) (by((try simp only[nc] at *);omega))];((try simp only[nc] at *);omega)
   have hmu:∀_:Unit,n-k1.toNat<n-k.toNat:=fun _=>by((try simp only[nc] at *);omega)
   have hx:=hge i;have hri:=hr i;have hri1:=hr (i+1);have hns1:=hns i;have h641:=h64 (n:=8*(i+1)) (by((try simp only[nc] at *);omega));obtain⟨k8,hk8⟩:∃k8:Int,k8=((8*i:Nat):Int):=⟨_,rfl⟩;have e8:vb .mul .i64 8 k=k8:=by rw[qb,kcc (by((try simp only[nc] at *);omega)) (by((try simp only[nc] at *);omega))];((try simp only[nc] at *);omega)
   have e8w:vw .u64 k8=k8:=by rw[qw];exact wrap_u64 (by((try simp only[nc] at *);omega)) (by((try simp only[nc] at *);omega))
   have h80:0≤k8:=by((try simp only[nc] at *);omega)
   generalize hxi:b.getD i 0=x at *;have exw:vw .u64 x=x:=by rw[qw];exact wrap_u64 (by((try simp only[nc] at *);omega)) (by((try simp only[nc] at *);omega))
   obtain⟨s1,hs1⟩:∃s1,s1=NA (i+1):=⟨_,rfl⟩;have hpp:(0:Int)<2^(8*i):=Int.pow_pos (by decide);have hxp:0≤x*2^(8*i):=Int.mul_nonneg hx.1 (Int.le_of_lt hpp);have e2:vb .or .u64 s (vb .shl .u64 x k8)=s1:=by
    have ht:k8.toNat=8*i:=by rw[hk8,Int.toNat_natCast]
    rw[qb,kaI rfl hx.1 (by show k8≤((64:Nat):Int);((try simp only[nc] at *);omega)) (by rw[ht];show _<(2:Int)^64;((try simp only[nc] at *);omega)),ht,kdE rfl (8*i) (by((try simp only[nc] at *);omega)) (by((try simp only[nc] at *);omega)) hx.1 (by show _<(2:Int)^64;((try simp only[nc] at *);omega)),hs1,hns1,hs]
   cbv;rw[hti,hadd0,hvgd,hvln,hxi];refine⟨⟨hinR⟩,⟨hlt⟩,⟨hlt⟩,?_⟩
   rw[exw,e8,e8w];refine⟨⟨h80⟩,?_⟩
   rw[e2,ek];refine Cv.fold ([4,5]++[9,10,11,12,13,14,15,16,17,18,19,20,21]) 1 [] (by exact Nat.le_refl _) (by exact Nat.le_of_ble_eq_true rfl) (by rfl) (by cbv) ?_
   intro js;refine⟨(_,_),?_,js,rfl⟩
   exact⟨⟨i+1,hk1,hlt,hs1⟩,hmu ()⟩
  ·rw[qc,km] at hz4;obtain rfl:i=n:=by((try simp only[nc] at *);omega)
   cbv;exact⟨by rw[hs],trivial⟩
structure SA (L cap o k:Nat):Prop where
 ok:o≤k
 kL:k≤L
 Lc:L≤cap
 at':o=k∨k=cap
theorem SA.zero {L cap:Nat} (h:L≤cap):SA L cap 0 0:=⟨Nat.le_refl _,Nat.zero_le _,h,.inl rfl⟩
theorem SA.take {L cap o k n o2:Nat} (h:SA L cap o k) (hn:n≤L-k) (ho:o2=if cap-k=n then o else o+n):SA L cap o2 (k+n):=by
 obtain⟨h1,h2,h3,h4⟩:=h;subst ho;split
 ·exact⟨by omega,by omega,h3,by omega⟩
 ·exact⟨by omega,by omega,h3,by omega⟩
def sg (b:List Int) (k n:Nat):List Int:=(b.drop k).take n
theorem kP {b:List Int} {k n:Nat} (h:k+n≤b.length):(sg b k n).length=n:=by
 unfold sg;rw[List.length_take,List.length_drop];omega
theorem qr {P:Int→Prop} {b:List Int} (h:∀x∈b,P x) (k n:Nat):∀x∈sg b k n,P x:=fun x hx=>h x (List.mem_of_mem_drop (List.mem_of_mem_take hx))
theorem khi {b:List Int} {k n i:Nat} (h:i<n):(sg b k n).getD i 0=b.getD (k+i) 0:=by
 unfold sg;rw[List.getD_eq_getElem?_getD,List.getElem?_take,if_pos h,List.getElem?_drop,List.getD_eq_getElem?_getD]
theorem SA.view {b:List Int} {L cap o k n:Nat} (h:SA L cap o k) (hL:L=b.length) (hn:n≤L-k):qp o (sg b k n) b:=by
 subst hL;obtain⟨h1,h2,h3,h4⟩:=h;have hl:=kP (b:=b) (k:=k) (n:=n) (by omega);refine⟨by rw[hl];omega,fun i hi=>?_⟩
 rw[hl] at hi;rw[khi hi];rcases h4 with rfl|h4
 ·rfl
 ·omega
inductive HdR where
 |err (e:Int)
 |skip (s:Int)
 |frm (k:Nat) (win most siz:Int) (told sum:Bool)
def jR (d:Int):Nat:=if d % 4=0 then 0 else if d % 4=1 then 1 else if d % 4=2 then 2 else 4
def szN (d:Int):Nat:=if d / 64=0 then 0 else if d / 64=1 then 2 else if d / 64=2 then 4 else 8
def wdN (d:Int):Nat:=if d / 32 % 2=1 then 0 else 1
def sz1 (d:Int):Nat:=if d / 32 % 2=1 then max (szN d) 1 else szN d
def khj (b:List Int) (d:Int):Int:=kV (sg b (5+(wdN d+jR d)) (sz1 d)) (sz1 d)+if sz1 d=2 then 256 else 0
def ka3 (b:List Int) (d:Int):Int:=if wdN d=1 then 2^(10+b.getD 5 0 / 8).toNat+2^(10+b.getD 5 0 / 8).toNat / 8*(b.getD 5 0 % 8) else max (khj b d) 1
def hdP (b:List Int) (bud:Int):HdR:=
 if b.length<4 then .err 10
 else if kV (sg b 0 4) 4-kV (sg b 0 4) 4 % 16=407710288 then(if b.length<8 then .err 10 else .skip (1+kV (sg b 4 4) 4))
 else if kV (sg b 0 4) 4≠4247762216 then .err 11
 else if b.length<5 then .err 10
 else if b.getD 4 0 / 8 % 2=1 then .err 11
 else if b.length<5+(wdN (b.getD 4 0)+jR (b.getD 4 0)+sz1 (b.getD 4 0)) then .err 10
 else if kV (sg b (5+wdN (b.getD 4 0)) (jR (b.getD 4 0))) (jR (b.getD 4 0))≠0 then .err 12
 else if min (max bud 0) 16777216<ka3 b (b.getD 4 0) then .err 40
 else .frm (5+(wdN (b.getD 4 0)+jR (b.getD 4 0)+sz1 (b.getD 4 0))) (ka3 b (b.getD 4 0)) (min (ka3 b (b.getD 4 0)) 131072) (khj b (b.getD 4 0)) (decide (0<sz1 (b.getD 4 0))) (decide (b.getD 4 0 / 4 % 2=1))
theorem kqr {n:Nat} (h:n<2^64):n &&& 18446744073709551600=n / 16*16:=by
 have e:(18446744073709551600:Nat)=(2^60-1) <<< 4:=by decide
 have e2:n / 16*16=(n >>> 4) <<< 4:=by rw[Nat.shiftRight_eq_div_pow,Nat.shiftLeft_eq]
 rw[e,e2];apply Nat.eq_of_testBit_eq
 intro i;rw[Nat.testBit_and,Nat.testBit_shiftLeft,Nat.testBit_shiftLeft,Nat.testBit_shiftRight,Nat.testBit_two_pow_sub_one];by_cases hi:4≤i
 ·have h4:4+(i-4)=i:=by omega
  rw[h4];by_cases h64:i<64
  ·simp[hi,show i-4<60 by omega]
  ·have:n.testBit i=false:=Nat.testBit_lt_two_pow (Nat.lt_of_lt_of_le h (Nat.pow_le_pow_right (by decide) (by omega)));simp[this]
 ·simp[hi]
theorem kny {n:Int} (h:0≤n∧n<2^32):bV .andNot .u64 n 15=n-n % 16:=by
 have e:(2:Int)^32=4294967296:=by decide
 show IntKind.u64.wrap _=_
 have e1:(BitVec.ofInt IntKind.u64.bits n).toNat=n.toNat:=by
  rw[BitVec.toNat_ofInt];congr 1;rw[Int.emod_eq_of_lt h.1 (by show n<18446744073709551616;omega)]
 have e2:(~~~ (BitVec.ofInt IntKind.u64.bits 15)).toNat=18446744073709551600:=by decide
 rw[BitVec.toNat_and,e1,e2,kqr (by omega)];rw[wrap_u64 (by omega) (by omega)];omega
theorem kfG {d:Int} (h:0≤d∧d≤255):∃n:Fin 256,d=n.val:=⟨⟨d.toNat,by omega⟩,by simp;omega⟩
theorem krA {d:Int} (h:0≤d∧d≤255):bV .and .u8 d 8=d / 8 % 2*8:=by
 obtain⟨n,rfl⟩:=kfG h;have key:∀n:Fin 256,bV .and .u8 (n.val:Int) 8=(n.val:Int) / 8 % 2*8:=by decide +kernel
 exact key n
theorem krB {d:Int} (h:0≤d∧d≤255):bV .and .u8 d 3=d % 4:=by
 obtain⟨n,rfl⟩:=kfG h;have key:∀n:Fin 256,bV .and .u8 (n.val:Int) 3=(n.val:Int) % 4:=by decide +kernel
 exact key n
theorem kpW {d:Int} (h:0≤d∧d≤255):bV .and .u8 d 32=d / 32 % 2*32:=by
 obtain⟨n,rfl⟩:=kfG h;have key:∀n:Fin 256,bV .and .u8 (n.val:Int) 32=(n.val:Int) / 32 % 2*32:=by decide +kernel
 exact key n
theorem krC {d:Int} (h:0≤d∧d≤255):bV .shr .u8 d 6=d / 64:=by
 obtain⟨n,rfl⟩:=kfG h;have key:∀n:Fin 256,bV .shr .u8 (n.val:Int) 6=(n.val:Int) / 64:=by decide +kernel
 exact key n
theorem koD {d:Int} (h:0≤d∧d≤255):cV .neq (bV .and .u8 d 4) 0=decide (d / 4 % 2=1):=by
 obtain⟨n,rfl⟩:=kfG h;have key:∀n:Fin 256,cV .neq (bV .and .u8 (n.val:Int) 4) 0=decide ((n.val:Int) / 4 % 2=1):=by decide +kernel
 exact key n
theorem koE {x:Int} (h:0≤x∧x≤255):bV .add .u8 10 (bV .shr .u8 x 3)=10+x / 8∧0≤bV .add .u8 10 (bV .shr .u8 x 3):=by
 obtain⟨n,rfl⟩:=kfG h;have key:∀n:Fin 256,bV .add .u8 10 (bV .shr .u8 (n.val:Int) 3)=10+(n.val:Int) / 8∧0≤bV .add .u8 10 (bV .shr .u8 (n.val:Int) 3):=by decide +kernel
 exact key n
theorem koF {x win:Int} (h:0≤x∧x≤255) (hw:win=2^(10+x / 8).toNat+2^(10+x / 8).toNat / 8*(x % 8)):bV .add .u64 (bV .shl .u64 1 (bV .add .u8 10 (bV .shr .u8 x 3))) (bV .mul .u64 (bV .quo .u64 (bV .shl .u64 1 (bV .add .u8 10 (bV .shr .u8 x 3))) 8) (IntKind.u64.wrap (bV .and .u8 x 7)))=win:=by
 subst hw;obtain⟨n,rfl⟩:=kfG h;have key:∀n:Fin 256,bV .add .u64 (bV .shl .u64 1 (bV .add .u8 10 (bV .shr .u8 (n.val:Int) 3))) (bV .mul .u64 (bV .quo .u64 (bV .shl .u64 1 (bV .add .u8 10 (bV .shr .u8 (n.val:Int) 3))) 8) (IntKind.u64.wrap (bV .and .u8 (n.val:Int) 7)))=2^(10+(n.val:Int) / 8).toNat+2^(10+(n.val:Int) / 8).toNat / 8*((n.val:Int) % 8):=by decide +kernel
 exact key n
theorem kdV {b:List Int} (hby:∀x∈b,kF x) (d:Int) (h:5+(wdN d+jR d+sz1 d)≤b.length):1≤ka3 b d:=by
 unfold ka3;split
 ·have hx:=jB hby 5;have hp:(0:Int)<2^(10+b.getD 5 0 / 8).toNat:=Int.pow_pos (by decide);have:=Int.mul_nonneg (Int.ediv_nonneg (Int.le_of_lt hp) (by decide:(0:Int)≤8)) (by omega:0≤b.getD 5 0 % 8);omega
 ·omega
set_option maxHeartbeats 40000000
theorem kqs {n:Int} (h:0≤n∧n<2^32):bV .add .u64 1 n=1+n:=by
 have e:(2:Int)^32=4294967296:=by decide
 exact khb (by omega) (by omega)
theorem krD {A B C D E:Type} {Goal:Prop} (G Fc:A→B→C→D→E→Prop) (hm:(∀a b c d e,Fc a b c d e→G a b c d e)→Goal) (hk:∀a b c d e,Fc a b c d e→G a b c d e):Goal:=hm hk
theorem or4 {A B C D G:Prop} (h:A∨B∨C∨D) (a:A→G) (b:B→G) (c:C→G) (d:D→G):G:=by
 rcases h with h|h|h|h
 ·exact a h
 ·exact b h
 ·exact c h
 ·exact d h
theorem kfI {P:Program} {f:Nat} {args:List SV} {s:SS} {K:SV→SS→Prop} {X:XE→SS→Prop} (args':List SV) (he:∀σ,denL σ args=denL σ args') (h:CallX P f args' s K X):CallX P f args s K X:=
 ⟨h.go,fun σ w hok=>by rw[he];exact h.out σ w hok⟩
theorem koG (n:Nat):cV .gtr (n:Int) 0=decide (0<n):=by
 by_cases h:0<n
 ·rw[gtr_true.2 (by omega)];simp[h]
 ·rw[gtr_false.2 (by omega)];simp[h]
theorem koH (x:Int):(if 16777216<(if x<0 then 0 else x) then 16777216 else(if x<0 then 0 else x))=min (max x 0) 16777216:=by
 repeat' split
 all_goals omega
theorem kqt (x:Int):(if 131072<x then 131072 else x)=min x 131072:=by split<;>omega
theorem kqu (x:Int):(if x<1 then 1 else x)=max x 1:=by split<;>omega
theorem SA.view_in {b:List Int} {L cap o k tn w n o4:Nat} (h:SA L cap o k) (hL:L=b.length) (hT:k+tn≤L) (hn:tn=w+n) (ho:o4=if tn=w then o else o+w):qp o4 (sg b (k+w) n) b:=by
 obtain⟨h1,h2,h3,h4⟩:=h;have hl:=kP (b:=b) (k:=k+w) (n:=n) (by omega);subst ho;refine⟨by rw[hl];split<;>omega,fun i hi=>?_⟩
 rw[hl] at hi;rw[khi hi,if_neg (by omega)];rcases h4 with rfl|h4
 ·rfl
 ·omega
theorem SA.view_in2 {b:List Int} {L cap o k tn w n o4:Nat} (h:SA L cap o k) (hL:L=b.length) (hT:k+tn≤L) (hn:w+n≤tn) (ho:o4=if tn=w then o else o+w):qp o4 (sg b (k+w) n) b:=by
 obtain⟨h1,h2,h3,h4⟩:=h;have hl:=kP (b:=b) (k:=k+w) (n:=n) (by omega);subst ho;refine⟨by rw[hl];split<;>omega,fun i hi=>?_⟩
 rw[hl] at hi;rw[khi hi,if_neg (by omega)];rcases h4 with rfl|h4
 ·rfl
 ·omega
theorem klW {d d3 dc:Int} (h:0≤d∧d≤255) (h3:d3=bV .and .u8 d 3) (hc:dc=jR d):(d3.toNat=0∧dc=0)∨(d3.toNat=1∧dc=1)∨(d3.toNat=2∧dc=2)∨(d3.toNat=3∧dc=4):=by
 rw[krB h] at h3;subst h3 hc;unfold jR;rcases(by omega:d % 4=0∨d % 4=1∨d % 4=2∨d % 4=3) with e|e|e|e<;>rw[e]<;>simp
theorem knz {d d6 sz:Int} (h:0≤d∧d≤255) (h6:d6=bV .shr .u8 d 6) (hc:sz=szN d):(d6.toNat=0∧sz=0)∨(d6.toNat=1∧sz=2)∨(d6.toNat=2∧sz=4)∨(d6.toNat=3∧sz=8):=by
 rw[krC h] at h6;subst h6 hc;unfold szN;rcases(by omega:d / 64=0∨d / 64=1∨d / 64=2∨d / 64=3) with e|e|e|e<;>rw[e]<;>simp
theorem kqv {d sz0 sz:Int} (h:d / 32 % 2=1) (h0:sz0=szN d) (h1:sz=sz1 d):(if sz0<1 then 1 else sz0)=sz:=by
 subst h0 h1;unfold sz1;rw[if_pos h];split<;>omega
theorem kqw (d:Int):jR d≤4:=by
 unfold jR;repeat' split
 all_goals decide
theorem kqx (d:Int):sz1 d≤8:=by
 unfold sz1 szN;repeat' split
 all_goals decide
theorem krE (d:Int):wdN d≤1:=by unfold wdN;split<;>omega
theorem knA (PT:SV→List SB→List Nat→Prop) (b:List Int) (cap:Nat) (bud:Int) (hby:∀x∈b,kF x) (hcap:b.length≤cap) (hcm:b.length≤140737488355328)
  (hE:∀e,hdP b bud=.err e→∀(o q c:Nat) (u:Int),PT (.tup [.val (.pointer none),.int .i64 e]) [.one 146 [.slice 1 (.n o) 1 q c,.int .i64 u,.val .nilFunc],.ro .u8 b] [])
  (hS:∀s,hdP b bud=.skip s→∀o q c:Nat,SA b.length cap o 8→q=b.length-8→c=cap-8→PT (.tup [.ptr 2 .z 15 0,.int .i64 0]) [.one 146 [.slice 1 (.n o) 1 q c,.int .i64 8,.val .nilFunc],.ro .u8 b,.one 107 [.val (.slice none 0 0),.val (.slice none 0 0),.val (.slice none 0 0),.val (.slice none 0 0),.int .i64 0,.int .i64 0,.int .i64 0,.int .u64 0,.int .i64 0,.int .u64 0,.bool false,.bool false,.int .u64 s,.val (.slice none 0 0),.int .i64 0]] [])
  (hG:∀(k:Nat) (win most siz:Int) (told sm:Bool),hdP b bud=.frm k win most siz told sm→∀(o q c:Nat) (ki:Int),SA b.length cap o k→q=b.length-k→c=cap-k→ki=k→PT (.tup [.ptr 2 .z 15 0,.int .i64 0]) [.one 146 [.slice 1 (.n o) 1 q c,.int .i64 ki,.val .nilFunc],.ro .u8 b,.one 107 [.val (.slice none 0 0),.val (.slice none 0 0),.val (.slice none 0 0),.val (.slice none 0 0),.int .i64 1,.int .i64 4,.int .i64 8,.int .u64 win,.int .i64 most,.int .u64 siz,.bool told,.bool sm,.int .u64 0,.val (.slice none 0 0),.int .i64 0]] []) :
  Con Try.prog 43 [.ptr 0 .z 3 0,.int .i64 bud] [.one 146 [.slice 1 (.n 0) 1 b.length cap,.int .i64 0,.val .nilFunc],.ro .u8 b] PT:=by
 obtain⟨R,hR⟩:∃R,R=hdP b bud:=⟨_,rfl⟩;rw[←hR] at hE hS hG;obtain⟨L,hL⟩:∃L,L=b.length:=⟨_,rfl⟩;rw[←hL] at hS hG hcap hcm ⊢
 have hbad:=fun o q c u n=>kax b o q c u n
 have hok:=fun o q c n o2 q2 c2 u ni u2=>kbt b o q c n o2 q2 c2 u ni u2
 have hbb:=fun o c u=>knx b o c u
 have hbo:=fun o q c o2 q2 c2 u u2 x=>koC b o q c o2 q2 c2 u u2 x
 have hnum:=fun k n c (h:k+n≤b.length) (h8:n≤8)=>kbu (sg b k n) c (qr hby k n) (by rw[kP h];exact h8)
 have hsl:=fun k n (h:k+n≤b.length)=>kP h
 have s0:=SA.zero hcap;have f72:=kqc;refine kf (kD (kg (kc kj kqW ?_)))
 intro vb vc vw vtoN _ vaddN vsubN vmaxI vminI vcutN vgd _ vln _ _ _ _ _ _ vnotB _ _ qb qc qw qtoN _ qaddN qsubN qmaxI qminI qcutN qgd _ qln _ _ _ _ _ _ qnotB _;have hm:=kj;generalize Try.prog=P at *;have hnt:vnotB true=false:=by rw[qnotB];rfl
 have hnf:vnotB false=true:=by rw[qnotB];rfl
 by_cases h4:L<4
 ·have hR1:R=.err 10:=by rw[hR];unfold hdP;rw[if_pos (by rw[←hL];exact h4)]
  have hb1:=hbad 0 L cap 0 4 (by omega);cbv;refine ka (ρ:=[(0,.z),(1,.z)]) hb1 ⟨by rfl,by rfl,by rfl,by cbv;(repeat' first|(refine And.intro ?_ ?_)|exact trivial|exact⟨Nat.le_refl _⟩|exact kb _|exact fun _=>rfl|(simp only[renL3];done)|(show SB.roA _ _ _=SB.roA _ _ _;rfl)|exact funext fun _=>rfl)⟩ ?_
  rintro v H R' js ⟨rfl,rfl,rfl⟩;cbv;rw[hnf];cbv;refine⟨[],[0,1],.tup [.val (.pointer none),.lit .i64 10],[.one 146 [.slice 1 (.n 0) 1 L cap,.int .i64 0,.val .nilFunc],.ro .u8 b],rfl,rfl,rfl,rfl,rfl,?_,?_⟩
  ·exact⟨rfl,rfl,trivial⟩
  ·exact hE 10 hR1 _ _ _ _
 obtain⟨o1,ho1⟩:∃o1,o1=if cap-0=4 then 0 else 0+4:=⟨_,rfl⟩
 obtain⟨q1,hq1⟩:∃q,q=L-4:=⟨_,rfl⟩;obtain⟨c1,hc1⟩:∃q,q=cap-4:=⟨_,rfl⟩;have hb1:=hok 0 L cap 4 o1 q1 c1 0 4 4 rfl (by omega) hcap (by omega) ho1 hq1 hc1 rfl;have s1:=s0.take (n:=4) (o2:=o1) (by omega) ho1;have hn1:=hnum 0 4 4 (by omega) (by omega);rw[hsl 0 4 (by omega)] at hn1;obtain⟨N,hN⟩:∃N,N=kV (sg b 0 4) 4:=⟨_,rfl⟩;have hNr:=kY (qr hby 0 4) 4;rw[←hN] at hn1 hNr;have hv1:=s0.view hL (n:=4) (by omega);obtain⟨S4,hS4⟩:∃l,l=sg b 0 4:=⟨_,rfl⟩;rw[←hS4] at hn1 hv1;obtain⟨NA,hNA⟩:∃x,x=N-N % 16:=⟨_,rfl⟩;have eNA:vb .andNot .u64 N 15=NA:=by rw[qb,hNA];exact kny hNr
 by_cases hs:NA=407710288
 ·have v1:vc .eql NA 407710288=true:=by rw[qc,kt];exact hs
  by_cases h8:L<8
  ·have hR1:R=.err 10:=by rw[hR];unfold hdP;rw[if_neg (by rw[←hL];exact h4),if_pos (by rw[←hN,←hNA];exact hs),if_pos (by rw[←hL];exact h8)]
   have hb2:=hbad o1 q1 c1 4 4 (by omega);cbv;refine ka (ρ:=[(0,.z),(1,.z)]) hb1 ⟨by rfl,by rfl,by rfl,by cbv;(repeat' first|(refine And.intro ?_ ?_)|exact trivial|exact⟨Nat.le_refl _⟩|exact kb _|exact fun _=>rfl|(simp only[renL3];done)|(show SB.roA _ _ _=SB.roA _ _ _;rfl)|exact funext fun _=>rfl)⟩ ?_
   rintro v H R' js ⟨rfl,rfl,rfl⟩;cbv;rw[hnt];cbv;refine ka (ρ:=[(1,.n 0)]) hn1 ⟨by rfl,by rfl,by rfl,by cbv;exact⟨hv1,trivial⟩⟩ ?_
   rintro v H R' js ⟨rfl,rfl,rfl⟩;cbv;rw[eNA];rw[v1];cbv;refine ka (ρ:=[(0,.z),(1,.z)]) hb2 ⟨by rfl,by rfl,by rfl,by cbv;(repeat' first|(refine And.intro ?_ ?_)|exact trivial|exact⟨Nat.le_refl _⟩|exact kb _|exact fun _=>rfl|(simp only[renL3];done)|(show SB.roA _ _ _=SB.roA _ _ _;rfl)|exact funext fun _=>rfl)⟩ ?_
   rintro v H R' js ⟨rfl,rfl,rfl⟩;cbv;rw[hnf];cbv;refine⟨[],[0,1],.tup [.val (.pointer none),.lit .i64 10],[.one 146 [.slice 1 (.n o1) 1 q1 c1,.int .i64 4,.val .nilFunc],.ro .u8 b],rfl,rfl,rfl,rfl,rfl,?_,?_⟩
   ·exact⟨rfl,rfl,trivial⟩
   ·exact hE 10 hR1 _ _ _ _
  ·obtain⟨o2,ho2⟩:∃o2,o2=if cap-4=4 then o1 else o1+4:=⟨_,rfl⟩
   obtain⟨q2,hq2⟩:∃q,q=L-8:=⟨_,rfl⟩;obtain⟨c2,hc2⟩:∃q,q=cap-8:=⟨_,rfl⟩;have hb2:=hok o1 q1 c1 4 o2 q2 c2 4 4 8 rfl (by omega) (by omega) (by omega) (by rw[hc1];exact ho2) (by omega) (by omega) rfl;have s2:=s1.take (n:=4) (o2:=o2) (by omega) ho2;have hn2:=hnum 4 4 4 (by omega) (by omega);rw[hsl 4 4 (by omega)] at hn2;obtain⟨N2,hN2⟩:∃N,N=kV (sg b 4 4) 4:=⟨_,rfl⟩;have hNr2:=kY (qr hby 4 4) 4;rw[←hN2] at hn2 hNr2;have hv2:=s1.view hL (n:=4) (by omega);rw[Nat.zero_add] at hv2;obtain⟨S8,hS8⟩:∃l,l=sg b 4 4:=⟨_,rfl⟩;rw[←hS8] at hn2 hv2;obtain⟨S,hS'⟩:∃x,x=1+N2:=⟨_,rfl⟩;have eS:vb .add .u64 1 N2=S:=by rw[qb,hS'];exact kqs hNr2
   have hR1:R=.skip S:=by rw[hR];unfold hdP;rw[if_neg (by rw[←hL];exact h4),if_pos (by rw[←hN,←hNA];exact hs),if_neg (by rw[←hL];exact h8),hS',hN2]
   have hfin:=hS S hR1 o2 q2 c2 s2 hq2 hc2;cbv;refine ka (ρ:=[(0,.z),(1,.z)]) hb1 ⟨by rfl,by rfl,by rfl,by cbv;(repeat' first|(refine And.intro ?_ ?_)|exact trivial|exact⟨Nat.le_refl _⟩|exact kb _|exact fun _=>rfl|(simp only[renL3];done)|(show SB.roA _ _ _=SB.roA _ _ _;rfl)|exact funext fun _=>rfl)⟩ ?_
   rintro v H R' js ⟨rfl,rfl,rfl⟩;cbv;rw[hnt];cbv;refine ka (ρ:=[(1,.n 0)]) hn1 ⟨by rfl,by rfl,by rfl,by cbv;exact⟨hv1,trivial⟩⟩ ?_
   rintro v H R' js ⟨rfl,rfl,rfl⟩;cbv;rw[eNA];rw[v1];cbv;refine ka (ρ:=[(0,.z),(1,.z)]) hb2 ⟨by rfl,by rfl,by rfl,by cbv;(repeat' first|(refine And.intro ?_ ?_)|exact trivial|exact⟨Nat.le_refl _⟩|exact kb _|exact fun _=>rfl|(simp only[renL3];done)|(show SB.roA _ _ _=SB.roA _ _ _;rfl)|exact funext fun _=>rfl)⟩ ?_
   rintro v H R' js ⟨rfl,rfl,rfl⟩;cbv;rw[hnt];cbv;refine ka (ρ:=[(1,.n o1)]) hn2 ⟨by rfl,by rfl,by rfl,by cbv;exact⟨hv2,trivial⟩⟩ ?_
   rintro v H R' js ⟨rfl,rfl,rfl⟩;cbv;rw[eS];refine⟨[],[0,1,2],.tup [.ptr 2 .z 15 0,.lit .i64 0],[.one 146 [.slice 1 (.n o2) 1 q2 c2,.int .i64 8,.val .nilFunc],.ro .u8 b,.one 107 [.val (.slice none 0 0),.val (.slice none 0 0),.val (.slice none 0 0),.val (.slice none 0 0),.lit .i64 0,.lit .i64 0,.lit .i64 0,.lit .u64 0,.lit .i64 0,.lit .u64 0,.bool false,.bool false,.int .u64 S,.val (.slice none 0 0),.lit .i64 0]],rfl,rfl,rfl,rfl,rfl,?_,?_⟩
   ·exact⟨rfl,rfl,rfl,trivial⟩
   ·exact hfin
 have v1:vc .eql NA 407710288=false:=by rw[qc,kh];exact hs
 by_cases hm0:N=4247762216
 rotate_left
 ·have v2:vc .neq N 4247762216=true:=by rw[qc,kz];exact hm0
  have hR1:R=.err 11:=by rw[hR];unfold hdP;rw[if_neg (by rw[←hL];exact h4),if_neg (by rw[←hN,←hNA];exact hs),if_pos (by rw[←hN];exact hm0)]
  cbv;refine ka (ρ:=[(0,.z),(1,.z)]) hb1 ⟨by rfl,by rfl,by rfl,by cbv;(repeat' first|(refine And.intro ?_ ?_)|exact trivial|exact⟨Nat.le_refl _⟩|exact kb _|exact fun _=>rfl|(simp only[renL3];done)|(show SB.roA _ _ _=SB.roA _ _ _;rfl)|exact funext fun _=>rfl)⟩ ?_
  rintro v H R' js ⟨rfl,rfl,rfl⟩;cbv;rw[hnt];cbv;refine ka (ρ:=[(1,.n 0)]) hn1 ⟨by rfl,by rfl,by rfl,by cbv;exact⟨hv1,trivial⟩⟩ ?_
  rintro v H R' js ⟨rfl,rfl,rfl⟩;cbv;rw[eNA];rw[v1];cbv;rw[v2];cbv;refine⟨[],[0,1],.tup [.val (.pointer none),.lit .i64 11],[.one 146 [.slice 1 (.n o1) 1 q1 c1,.int .i64 4,.val .nilFunc],.ro .u8 b],rfl,rfl,rfl,rfl,rfl,?_,?_⟩
  ·exact⟨rfl,rfl,trivial⟩
  ·exact hE 11 hR1 _ _ _ _
 have v2:vc .neq N 4247762216=false:=by rw[qc,kQ];exact fun h=>h hm0
 by_cases h5:L<5
 ·have hR1:R=.err 10:=by rw[hR];unfold hdP;rw[if_neg (by rw[←hL];exact h4),if_neg (by rw[←hN,←hNA];exact hs),if_neg (by rw[←hN];exact fun h=>h hm0),if_pos (by rw[←hL];exact h5)]
  have hq0:q1=0:=by omega
  have hb3:=hbb o1 c1 4;cbv;refine ka (ρ:=[(0,.z),(1,.z)]) hb1 ⟨by rfl,by rfl,by rfl,by cbv;(repeat' first|(refine And.intro ?_ ?_)|exact trivial|exact⟨Nat.le_refl _⟩|exact kb _|exact fun _=>rfl|(simp only[renL3];done)|(show SB.roA _ _ _=SB.roA _ _ _;rfl)|exact funext fun _=>rfl)⟩ ?_
  rintro v H R' js ⟨rfl,rfl,rfl⟩;cbv;rw[hnt];cbv;refine ka (ρ:=[(1,.n 0)]) hn1 ⟨by rfl,by rfl,by rfl,by cbv;exact⟨hv1,trivial⟩⟩ ?_
  rintro v H R' js ⟨rfl,rfl,rfl⟩;cbv;rw[eNA];rw[v1];cbv;rw[v2];cbv;rw[hq0];refine ka (ρ:=[(0,.z),(1,.z)]) hb3 ⟨by rfl,by rfl,by rfl,by cbv;(repeat' first|(refine And.intro ?_ ?_)|exact trivial|exact⟨Nat.le_refl _⟩|exact kb _|exact fun _=>rfl|(simp only[renL3];done)|(show SB.roA _ _ _=SB.roA _ _ _;rfl)|exact funext fun _=>rfl)⟩ ?_
  rintro v H R' js ⟨rfl,rfl,rfl⟩;cbv;rw[hnf];cbv;refine⟨[],[0,1],.tup [.val (.pointer none),.lit .i64 10],[.one 146 [.slice 1 (.n o1) 1 0 c1,.int .i64 4,.val .nilFunc],.ro .u8 b],rfl,rfl,rfl,rfl,rfl,?_,?_⟩
  ·exact⟨rfl,rfl,trivial⟩
  ·exact hE 10 hR1 _ _ _ _
 obtain⟨o2,ho2⟩:∃o2,o2=if cap-4=1 then o1 else o1+1:=⟨_,rfl⟩
 obtain⟨q2,hq2⟩:∃q,q=L-5:=⟨_,rfl⟩;obtain⟨c2,hc2⟩:∃q,q=cap-5:=⟨_,rfl⟩;have ho14:o1=4:=by have:=s1.at';omega
 obtain⟨d,hd⟩:∃d,d=b.getD 4 0:=⟨_,rfl⟩;have hdr:=jB hby 4;rw[←hd] at hdr;have hb3:=hbo o1 q1 c1 o2 q2 c2 4 5 d (by omega) (by omega) (by omega) (by rw[hc1];exact ho2) (by omega) (by omega) rfl (by rw[ho14];exact hd) (by omega);have s2:=s1.take (n:=1) (o2:=o2) (by omega) ho2;obtain⟨d8,hd8⟩:∃x,x=vb .and .u8 d 8:=⟨_,rfl⟩;have hd8':=hd8;rw[qb] at hd8';by_cases hr8:d / 8 % 2=1
 ·have v3:vc .neq d8 0=true:=by rw[qc,kz,hd8'];exact fun h=>absurd hr8 (by rw[krA hdr] at h;omega)
  have hR1:R=.err 11:=by rw[hR];unfold hdP;rw[if_neg (by rw[←hL];exact h4),if_neg (by rw[←hN,←hNA];exact hs),if_neg (by rw[←hN];exact fun h=>h hm0),if_neg (by rw[←hL];exact h5),if_pos (by rw[←hd];exact hr8)]
  cbv;refine ka (ρ:=[(0,.z),(1,.z)]) hb1 ⟨by rfl,by rfl,by rfl,by cbv;(repeat' first|(refine And.intro ?_ ?_)|exact trivial|exact⟨Nat.le_refl _⟩|exact kb _|exact fun _=>rfl|(simp only[renL3];done)|(show SB.roA _ _ _=SB.roA _ _ _;rfl)|exact funext fun _=>rfl)⟩ ?_
  rintro v H R' js ⟨rfl,rfl,rfl⟩;cbv;rw[hnt];cbv;refine ka (ρ:=[(1,.n 0)]) hn1 ⟨by rfl,by rfl,by rfl,by cbv;exact⟨hv1,trivial⟩⟩ ?_
  rintro v H R' js ⟨rfl,rfl,rfl⟩;cbv;rw[eNA];rw[v1];cbv;rw[v2];cbv;refine ka (ρ:=[(0,.z),(1,.z)]) hb3 ⟨by rfl,by rfl,by rfl,by cbv;(repeat' first|(refine And.intro ?_ ?_)|exact trivial|exact⟨Nat.le_refl _⟩|exact kb _|exact fun _=>rfl|(simp only[renL3];done)|(show SB.roA _ _ _=SB.roA _ _ _;rfl)|exact funext fun _=>rfl)⟩ ?_
  rintro v H R' js ⟨rfl,rfl,rfl⟩;cbv;rw[hnt];cbv;rw[←hd8,v3];cbv;refine⟨[],[0,1],.tup [.val (.pointer none),.lit .i64 11],[.one 146 [.slice 1 (.n o2) 1 q2 c2,.int .i64 5,.val .nilFunc],.ro .u8 b],rfl,rfl,rfl,rfl,rfl,?_,?_⟩
  ·exact⟨rfl,rfl,trivial⟩
  ·exact hE 11 hR1 _ _ _ _
 have v3:vc .neq d8 0=false:=by rw[qc,kQ,hd8'];exact fun h=>h (by rw[krA hdr];omega)
 obtain⟨d32,hd32⟩:∃x,x=vb .and .u8 d 32:=⟨_,rfl⟩;have hd32':=hd32;rw[qb] at hd32';obtain⟨d3,hd3⟩:∃x,x=vb .and .u8 d 3:=⟨_,rfl⟩;have hd3':=hd3;rw[qb] at hd3';obtain⟨d6,hd6⟩:∃x,x=vb .shr .u8 d 6:=⟨_,rfl⟩;have hd6':=hd6;rw[qb] at hd6';have hr3:0≤d3∧d3<((4:Nat):Int):=by rw[hd3',krB hdr];omega
 have hr6:0≤d6∧d6<((4:Nat):Int):=by rw[hd6',krC hdr];omega
 obtain⟨d4,hd4⟩:∃x,x=vb .and .u8 d 4:=⟨_,rfl⟩;obtain⟨sm,hsm⟩:∃x,x=vc .neq d4 0:=⟨_,rfl⟩;refine' krD _ (fun(js:Nat→Value) (wd dc sz tot:Int)=>wd=wdN d∧dc=jR d∧sz=sz1 d∧tot=wd+dc+sz) (fun key=>?_) ?_
 rotate_left
 ·obtain⟨dc,hdc0⟩:∃x:Int,x=jR d:=⟨_,rfl⟩;obtain⟨sz0,hsz0⟩:∃x:Int,x=szN d:=⟨_,rfl⟩;have hD:=klW hdr hd3' hdc0;have hZ:=knz hdr hd6' hsz0;simp only[←qtoN] at hD hZ;by_cases h32:d / 32 % 2=1
  ·have v4:vc .neq d32 0=true:=by rw[qc,kz,hd32'];exact fun h=>absurd h32 (by rw[kpW hdr] at h;omega)
   obtain⟨wd,hwd⟩:∃x:Int,x=0:=⟨_,rfl⟩;have hwd0:wd=wdN d:=by rw[hwd];unfold wdN;rw[if_pos h32];rfl
   obtain⟨sz,hsz⟩:∃x:Int,x=sz1 d:=⟨_,rfl⟩;have hM:sz=if sz0<1 then 1 else sz0:=(kqv h32 hsz0 hsz).symm
   obtain⟨tot,htot⟩:∃x:Int,x=wd+dc+sz:=⟨_,rfl⟩;have hkey:wd=wdN d∧dc=jR d∧sz=sz1 d∧tot=wd+dc+sz:=⟨hwd0,hdc0,hsz,htot⟩;clear hwd0 hsz hdc0 hsz0;cbv;refine ka (ρ:=[(0,.z),(1,.z)]) hb1 ⟨by rfl,by rfl,by rfl,by cbv;(repeat' first|(refine And.intro ?_ ?_)|exact trivial|exact⟨Nat.le_refl _⟩|exact kb _|exact fun _=>rfl|(simp only[renL3];done)|(show SB.roA _ _ _=SB.roA _ _ _;rfl)|exact funext fun _=>rfl)⟩ ?_
   rintro v H R' js ⟨rfl,rfl,rfl⟩;cbv;rw[hnt];cbv;refine ka (ρ:=[(1,.n 0)]) hn1 ⟨by rfl,by rfl,by rfl,by cbv;exact⟨hv1,trivial⟩⟩ ?_
   rintro v H R' js ⟨rfl,rfl,rfl⟩;cbv;rw[eNA];rw[v1];cbv;rw[v2];cbv;refine ka (ρ:=[(0,.z),(1,.z)]) hb3 ⟨by rfl,by rfl,by rfl,by cbv;(repeat' first|(refine And.intro ?_ ?_)|exact trivial|exact⟨Nat.le_refl _⟩|exact kb _|exact fun _=>rfl|(simp only[renL3];done)|(show SB.roA _ _ _=SB.roA _ _ _;rfl)|exact funext fun _=>rfl)⟩ ?_
   rintro v H R' js ⟨rfl,rfl,rfl⟩;cbv;rw[hnt];cbv;refine or4 hD (fun hi=>?_) (fun hi=>?_) (fun hi=>?_) (fun hi=>?_)<;>refine or4 hZ (fun hj=>?_) (fun hj=>?_) (fun hj=>?_) (fun hj=>?_)
   all_goals
    rw[hj.2] at hM;rw[hwd,hi.2,hM] at htot;rw[←hd8,v3];cbv;rw[←hd3,←hd6,hi.1,hj.1];refine⟨⟨hr3⟩,⟨hr6⟩,?_⟩
    rw[←hd32,v4];cbv;rw[←hd4,←hsm];refine kfI [.ptr 0 .z 3 0,.int .i64 tot] (fun σ=>by rw[htot];rfl) ?_
    refine CallX.cv f72.go (Cv.slotEq 13 (.int .i64 wd) (by rfl) (fun σ=>by rw[hwd];rfl) (Cv.slotEq 14 (.int .i64 dc) (by rfl) (fun σ=>by rw[hi.2];rfl) (Cv.slotEq 15 (.int .i64 sz) (by rfl) (fun σ=>by rw[hM];rfl) (Cv.fold [8,9,10,1016063] 3 [] (by exact Nat.le_refl _) (by exact Nat.le_of_ble_eq_true rfl) (by rfl) (by cbv) ?_)))) (by rfl)
    intro js;cbv;exact key js wd dc sz tot hkey
  ·have v4:vc .neq d32 0=false:=by rw[qc,kQ,hd32'];exact fun h=>h (by rw[kpW hdr];omega)
   obtain⟨wd,hwd⟩:∃x:Int,x=1:=⟨_,rfl⟩;have hwd0:wd=wdN d:=by rw[hwd];unfold wdN;rw[if_neg h32];rfl
   obtain⟨sz,hsz⟩:∃x:Int,x=sz1 d:=⟨_,rfl⟩;have hM:sz=sz0:=by rw[hsz,hsz0];unfold sz1;rw[if_neg h32]
   obtain⟨tot,htot⟩:∃x:Int,x=wd+dc+sz:=⟨_,rfl⟩;have hkey:wd=wdN d∧dc=jR d∧sz=sz1 d∧tot=wd+dc+sz:=⟨hwd0,hdc0,hsz,htot⟩;clear hwd0 hsz hdc0 hsz0;cbv;refine ka (ρ:=[(0,.z),(1,.z)]) hb1 ⟨by rfl,by rfl,by rfl,by cbv;(repeat' first|(refine And.intro ?_ ?_)|exact trivial|exact⟨Nat.le_refl _⟩|exact kb _|exact fun _=>rfl|(simp only[renL3];done)|(show SB.roA _ _ _=SB.roA _ _ _;rfl)|exact funext fun _=>rfl)⟩ ?_
   rintro v H R' js ⟨rfl,rfl,rfl⟩;cbv;rw[hnt];cbv;refine ka (ρ:=[(1,.n 0)]) hn1 ⟨by rfl,by rfl,by rfl,by cbv;exact⟨hv1,trivial⟩⟩ ?_
   rintro v H R' js ⟨rfl,rfl,rfl⟩;cbv;rw[eNA];rw[v1];cbv;rw[v2];cbv;refine ka (ρ:=[(0,.z),(1,.z)]) hb3 ⟨by rfl,by rfl,by rfl,by cbv;(repeat' first|(refine And.intro ?_ ?_)|exact trivial|exact⟨Nat.le_refl _⟩|exact kb _|exact fun _=>rfl|(simp only[renL3];done)|(show SB.roA _ _ _=SB.roA _ _ _;rfl)|exact funext fun _=>rfl)⟩ ?_
   rintro v H R' js ⟨rfl,rfl,rfl⟩;cbv;rw[hnt];cbv;refine or4 hD (fun hi=>?_) (fun hi=>?_) (fun hi=>?_) (fun hi=>?_)<;>refine or4 hZ (fun hj=>?_) (fun hj=>?_) (fun hj=>?_) (fun hj=>?_)
   all_goals
    rw[hj.2] at hM;rw[hwd,hi.2,hM] at htot;rw[←hd8,v3];cbv;rw[←hd3,←hd6,hi.1,hj.1];refine⟨⟨hr3⟩,⟨hr6⟩,?_⟩
    rw[←hd32,v4];cbv;rw[←hd4,←hsm];refine kfI [.ptr 0 .z 3 0,.int .i64 tot] (fun σ=>by rw[htot];rfl) ?_
    refine CallX.cv f72.go (Cv.slotEq 13 (.int .i64 wd) (by rfl) (fun σ=>by rw[hwd];rfl) (Cv.slotEq 14 (.int .i64 dc) (by rfl) (fun σ=>by rw[hi.2];rfl) (Cv.slotEq 15 (.int .i64 sz) (by rfl) (fun σ=>by rw[hM];rfl) (Cv.fold [8,9,10,1016063] 3 [] (by exact Nat.le_refl _) (by exact Nat.le_of_ble_eq_true rfl) (by rfl) (by cbv) ?_)))) (by rfl)
    intro js;cbv;exact key js wd dc sz tot hkey
 ·intro js wd dc sz tot ⟨hwd,hdc,hsz,htot⟩
  obtain⟨w,hw'⟩:∃x,x=wdN d+jR d:=⟨_,rfl⟩;obtain⟨tn,htn⟩:∃x,x=wdN d+jR d+sz1 d:=⟨_,rfl⟩;have htot':tot=tn:=by omega
  have hle:=And.intro (krE d) (And.intro (kqw d) (kqx d));have hRp:∀r,(if b.length<5+(wdN (b.getD 4 0)+jR (b.getD 4 0)+sz1 (b.getD 4 0)) then HdR.err 10
    else if kV (sg b (5+wdN (b.getD 4 0)) (jR (b.getD 4 0))) (jR (b.getD 4 0))≠0 then .err 12
    else if min (max bud 0) 16777216<ka3 b (b.getD 4 0) then .err 40
    else .frm (5+(wdN (b.getD 4 0)+jR (b.getD 4 0)+sz1 (b.getD 4 0))) (ka3 b (b.getD 4 0)) (min (ka3 b (b.getD 4 0)) 131072) (khj b (b.getD 4 0)) (decide (0<sz1 (b.getD 4 0))) (decide (b.getD 4 0 / 4 % 2=1)))=r→R=r:=fun r hr=>by
   rw[hR];unfold hdP
   rw[if_neg (by rw[←hL];exact h4),if_neg (by rw[←hN,←hNA];exact hs),if_neg (by rw[←hN];exact fun h=>h hm0),if_neg (by rw[←hL];exact h5),if_neg (by rw[←hd];exact hr8)];exact hr
  rw[←hd,←hL,←htn] at hRp;by_cases hT:L<5+tn
  ·have hR1:R=.err 10:=hRp _ (if_pos hT);have hb4:=hbad o2 q2 c2 5 tot (by omega);cbv;refine ka (ρ:=[(0,.z),(1,.z)]) hb4 ⟨by rfl,by rfl,by rfl,by cbv;(repeat' first|(refine And.intro ?_ ?_)|exact trivial|exact⟨Nat.le_refl _⟩|exact kb _|exact fun _=>rfl|(simp only[renL3];done)|(show SB.roA _ _ _=SB.roA _ _ _;rfl)|exact funext fun _=>rfl)⟩ ?_
   rintro v H R' js ⟨rfl,rfl,rfl⟩;cbv;rw[hnf];cbv;refine⟨[],[0,1],.tup [.val (.pointer none),.lit .i64 10],[.one 146 [.slice 1 (.n o2) 1 q2 c2,.int .i64 5,.val .nilFunc],.ro .u8 b],rfl,rfl,rfl,rfl,rfl,?_,?_⟩
   ·exact⟨rfl,rfl,trivial⟩
   ·exact hE 10 hR1 _ _ _ _
  rw[if_neg hT] at hRp;obtain⟨o3,ho3⟩:∃o3,o3=if cap-5=tn then o2 else o2+tn:=⟨_,rfl⟩
  obtain⟨q3,hq3⟩:∃q,q=L-(5+tn):=⟨_,rfl⟩;obtain⟨c3,hc3⟩:∃q,q=cap-(5+tn):=⟨_,rfl⟩;obtain⟨u3,hu3⟩:∃q:Int,q=5+tot:=⟨_,rfl⟩;have hb4:=hok o2 q2 c2 tn o3 q3 c3 5 tot u3 htot' (by omega) (by omega) (by omega) (by rw[hc2];exact ho3) (by omega) (by omega) hu3;have s3:=s2.take (n:=tn) (o2:=o3) (by omega) ho3;have ho25:0<tn→o2=5:=fun h=>by have:=s2.at';omega
  obtain⟨zn,hzn⟩:∃x,x=sz1 d:=⟨_,rfl⟩;obtain⟨wn,hwn⟩:∃x,x=wdN d:=⟨_,rfl⟩;obtain⟨dn,hdn⟩:∃x,x=jR d:=⟨_,rfl⟩;rw[←hzn,←hwn,←hdn] at hle;rw[←hzn] at hsz;rw[←hwn] at hwd;rw[←hdn] at hdc;rw[←hwn,←hdn] at hw' htn;rw[←hzn] at htn;have htn':tn=w+zn:=by omega
  obtain⟨wi,hwi⟩:∃x:Int,x=wd+dc:=⟨_,rfl⟩;have hwiw:wi=w:=by omega
  have ewi:vb .add .i64 wd dc=wi:=by rw[qb,hwi];exact ku (by omega) (by omega)
  have ewt:vtoN wi=w:=by rw[hwiw];simp only[qtoN,Int.toNat_natCast]
  have ewdt:vtoN wd=wn:=by rw[hwd];simp only[qtoN,Int.toNat_natCast]
  have ezn:vsubN tn w=zn:=by simp only[qsubN];omega
  have edn:vsubN w wn=dn:=by simp only[qsubN];omega
  obtain⟨o4,ho4⟩:∃x,x=if tn=w then o2 else o2+w:=⟨_,rfl⟩
  have eo4:vcutN o2 w tn=o4:=by rw[qcutN,ho4]
  obtain⟨o5,ho5⟩:∃x,x=if tn=wn then o2 else o2+wn:=⟨_,rfl⟩
  have eo5:vcutN o2 wn tn=o5:=by rw[qcutN,ho5]
  obtain⟨c5,hc5⟩:∃x,x=vsubN tn wn:=⟨_,rfl⟩;have hv4:=s2.view_in hL (w:=w) (n:=zn) (o4:=o4) (by omega) htn' ho4;have hv5:=s2.view_in2 hL (w:=wn) (n:=dn) (o4:=o5) (by omega) (by omega) ho5;have hn4:=hnum (5+w) zn zn (by omega) (by omega);rw[hsl (5+w) zn (by omega)] at hn4;obtain⟨S0,hS0⟩:∃N,N=kV (sg b (5+w) zn) zn:=⟨_,rfl⟩;have hS0r:=kY (qr hby (5+w) zn) zn;rw[←hS0] at hn4 hS0r;obtain⟨Z4,hZ4⟩:∃l,l=sg b (5+w) zn:=⟨_,rfl⟩;have hn5:=hnum (5+wn) dn c5 (by omega) (by omega);rw[hsl (5+wn) dn (by omega)] at hn5;obtain⟨Y0,hY0⟩:∃N,N=kV (sg b (5+wn) dn) dn:=⟨_,rfl⟩;rw[←hY0] at hn5;obtain⟨Z5,hZ5⟩:∃l,l=sg b (5+wn) dn:=⟨_,rfl⟩;have hv4:qp o4 Z4 b:=by rw[hZ4];exact hv4
  have hv5:qp o5 Z5 b:=by rw[hZ5];exact hv5
  rw[←hZ4] at hn4;rw[←hZ5] at hn5;obtain⟨td,htd⟩:∃x,x=decide (0<zn):=⟨_,rfl⟩;have etd:vc .gtr sz 0=td:=by rw[qc,htd,hsz];exact koG zn
  obtain⟨siz,hsiz⟩:∃x,x=khj b d:=⟨_,rfl⟩;obtain⟨win,hwin⟩:∃x,x=ka3 b d:=⟨_,rfl⟩;obtain⟨bz,hbz⟩:∃x,x=min (max bud 0) 16777216:=⟨_,rfl⟩;obtain⟨bm,hbm⟩:∃x,x=vmaxI bud 0:=⟨_,rfl⟩;have ebz:vminI bm 16777216=bz:=by rw[hbm,qminI,qmaxI,hbz];exact koH bud
  have ebu:vw .u64 bz=bz:=by rw[qw];exact wrap_u64 (by omega) (by omega)
  obtain⟨most,hmost⟩:∃x,x=min win 131072:=⟨_,rfl⟩;have emo:vminI win 131072=most:=by rw[qminI,hmost];exact kqt win
  have hwr:=kdV hby d (by rw[←hwn,←hdn,←hzn];omega);rw[←hwin] at hwr;have emw:vw .i64 most=most:=by rw[qw];exact wrap_i64 (by omega) (by omega)
  have hsizE:siz=S0+if zn=2 then 256 else 0:=by rw[hsiz,khj,←hzn,←hwn,←hdn,←hw',hS0]
  have hwinE:win=if wn=1 then 2^(10+b.getD 5 0 / 8).toNat+2^(10+b.getD 5 0 / 8).toNat / 8*(b.getD 5 0 % 8) else max siz 1:=by rw[hwin,ka3,←hwn,hsiz]
  rw[←hzn,←hwn,←hdn,←hwin,←hbz,←hY0,←hsiz,←hmost,←htd] at hRp;have hin1:0≤wi∧wi≤(tn:Int):=by omega
  have hsz8:zn=2→0≤S0∧S0<65536:=fun h=>by subst h;exact hS0r
  have hx5:=jB hby 5;obtain⟨x5,hx5'⟩:∃x,x=b.getD 5 0:=⟨_,rfl⟩;rw[←hx5'] at hx5 hwinE;have ho20:vaddN o2 0=o2:=by simp only[qaddN,Nat.add_zero]
  have hgx:0<tn→vgd b o2=x5:=fun h=>by rw[ho25 h,qgd];exact hx5'.symm
  have hlx:0<tn→o2<vln b:=fun h=>by rw[ho25 h];simp only[qln];omega
  have htw:wn=1→0<tn:=fun h=>by omega
  have hG1:=fun h=>hG (5+tn) win most siz td (decide (d / 4 % 2=1)) h o3 q3 c3 u3 s3 hq3 hc3 (by rw[hu3,htot'];push_cast;rfl)
  have v6t:wn=1→vc .eql wd 1=true:=fun h=>by rw[qc,kt,hwd,h];rfl
  have v6f:¬wn=1→vc .eql wd 1=false:=fun h=>by rw[qc,kh,hwd];omega
  have v5t:zn=2→vc .eql sz 2=true:=fun h=>by rw[qc,kt,hsz,h];rfl
  have v5f:¬zn=2→vc .eql sz 2=false:=fun h=>by rw[qc,kh,hsz];omega
  have enn:0≤vb .add .u8 10 (vb .shr .u8 x5 3):=by rw[qb];exact(koE hx5).2
  have eW:wn=1→vb .add .u64 (vb .shl .u64 1 (vb .add .u8 10 (vb .shr .u8 x5 3))) (vb .mul .u64 (vb .quo .u64 (vb .shl .u64 1 (vb .add .u8 10 (vb .shr .u8 x5 3))) 8) (vw .u64 (vb .and .u8 x5 7)))=win:=fun h=>by rw[qb,qw];exact koF hx5 (hwinE.trans (if_pos h))
  have emx:¬wn=1→vmaxI siz 1=win:=fun h=>by rw[qmaxI,hwinE,if_neg h];exact kqu siz
  have eS2:zn=2→vb .add .u64 S0 256=siz:=fun h=>by rw[qb,hsizE,if_pos h];have:=hsz8 h;exact khb (by omega) (by omega)
  have eS0:¬zn=2→S0=siz:=fun h=>by rw[hsizE,if_neg h,Int.add_zero]
  have hin0:wn=1→(0:Int)≤0∧(0:Int)<(tn:Int):=fun h=>by have:=htw h;omega
  have hin3:0≤wd∧wd≤(w:Int):=by omega
  have hsmE:sm=decide (d / 4 % 2=1):=by rw[hsm,hd4,qb,qc];exact koD hdr
  rw[←hsmE] at hG1 hRp;cbv;refine ka (ρ:=[(0,.z),(1,.z)]) hb4 ⟨by rfl,by rfl,by rfl,by cbv;(repeat' first|(refine And.intro ?_ ?_)|exact trivial|exact⟨Nat.le_refl _⟩|exact kb _|exact fun _=>rfl|(simp only[renL3];done)|(show SB.roA _ _ _=SB.roA _ _ _;rfl)|exact funext fun _=>rfl)⟩ ?_
  rintro v H R' js ⟨rfl,rfl,rfl⟩;cbv;rw[hnt];cbv;rw[ewi,ewt,eo4,ezn];refine⟨⟨hin1⟩,?_⟩
  refine ka (ρ:=[(1,.n o4)]) hn4 ⟨by rfl,by rfl,by rfl,by cbv;exact⟨hv4,trivial⟩⟩ ?_
  rintro v H R' js ⟨rfl,rfl,rfl⟩;cbv;rw[etd];by_cases hz2:zn=2
  ·cbv;rw[v5t hz2];cbv;rw[eS2 hz2];by_cases hw1:wn=1
   ·cbv;rw[v6t hw1];cbv;rw[ho20];(repeat first|refine And.intro ⟨hin0 hw1⟩ ?_|refine And.intro ⟨hlx (htw hw1)⟩ ?_);rw[hgx (htw hw1)];refine And.intro ⟨enn⟩ ?_
    (repeat first|refine And.intro ⟨hin0 hw1⟩ ?_|refine And.intro ⟨hlx (htw hw1)⟩ ?_);rw[eW hw1,ewi,ewt,ewdt];refine⟨⟨hin1⟩,⟨hin3⟩,?_⟩
    rw[eo5,edn,←hc5];refine ka (ρ:=[(1,.n o5)]) hn5 ⟨by rfl,by rfl,by rfl,by cbv;exact⟨hv5,trivial⟩⟩ ?_
    rintro v H R' js ⟨rfl,rfl,rfl⟩;cbv;by_cases hY:Y0=0
    rotate_left
    ·have v7:vc .neq Y0 0=true:=by rw[qc,kz];exact hY
     have hR1:R=.err 12:=hRp _ (if_pos hY);rw[v7];cbv;refine⟨[],[0,1],.tup [.val (.pointer none),.lit .i64 12],[.one 146 [.slice 1 (.n o3) 1 q3 c3,.int .i64 u3,.val .nilFunc],.ro .u8 b],rfl,rfl,rfl,rfl,rfl,?_,?_⟩
     ·exact⟨rfl,rfl,trivial⟩
     ·exact hE 12 hR1 _ _ _ _
    have v7:vc .neq Y0 0=false:=by rw[qc,kQ];exact fun h=>h hY
    rw[v7];cbv;rw[←hbm,ebz,ebu];by_cases hb:bz<win
    ·have v8:vc .gtr win bz=true:=by rw[qc,gtr_true];exact hb
     have hR1:R=.err 40:=hRp _ (by rw[if_neg (fun h=>h hY),if_pos hb]);rw[v8];cbv;refine⟨[],[0,1],.tup [.val (.pointer none),.lit .i64 40],[.one 146 [.slice 1 (.n o3) 1 q3 c3,.int .i64 u3,.val .nilFunc],.ro .u8 b],rfl,rfl,rfl,rfl,rfl,?_,?_⟩
     ·exact⟨rfl,rfl,trivial⟩
     ·exact hE 40 hR1 _ _ _ _
    have v8:vc .gtr win bz=false:=by rw[qc,gtr_false];exact hb
    have hR1:=hG1 (hRp _ (by rw[if_neg (fun h=>h hY),if_neg hb]));rw[v8];cbv;rw[emo,emw];refine⟨[],[0,1,2],.tup [.ptr 2 .z 15 0,.lit .i64 0],[.one 146 [.slice 1 (.n o3) 1 q3 c3,.int .i64 u3,.val .nilFunc],.ro .u8 b,.one 107 [.val (.slice none 0 0),.val (.slice none 0 0),.val (.slice none 0 0),.val (.slice none 0 0),.lit .i64 1,.lit .i64 4,.lit .i64 8,.int .u64 win,.int .i64 most,.int .u64 siz,.bool td,.bool sm,.lit .u64 0,.val (.slice none 0 0),.lit .i64 0]],rfl,rfl,rfl,rfl,rfl,?_,?_⟩
    ·exact⟨rfl,rfl,rfl,trivial⟩
    ·exact hR1
   ·cbv;rw[v6f hw1];cbv;rw[emx hw1,ewi,ewt,ewdt];refine⟨⟨hin1⟩,⟨hin3⟩,?_⟩
    rw[eo5,edn,←hc5];refine ka (ρ:=[(1,.n o5)]) hn5 ⟨by rfl,by rfl,by rfl,by cbv;exact⟨hv5,trivial⟩⟩ ?_
    rintro v H R' js ⟨rfl,rfl,rfl⟩;cbv;by_cases hY:Y0=0
    rotate_left
    ·have v7:vc .neq Y0 0=true:=by rw[qc,kz];exact hY
     have hR1:R=.err 12:=hRp _ (if_pos hY);rw[v7];cbv;refine⟨[],[0,1],.tup [.val (.pointer none),.lit .i64 12],[.one 146 [.slice 1 (.n o3) 1 q3 c3,.int .i64 u3,.val .nilFunc],.ro .u8 b],rfl,rfl,rfl,rfl,rfl,?_,?_⟩
     ·exact⟨rfl,rfl,trivial⟩
     ·exact hE 12 hR1 _ _ _ _
    have v7:vc .neq Y0 0=false:=by rw[qc,kQ];exact fun h=>h hY
    rw[v7];cbv;rw[←hbm,ebz,ebu];by_cases hb:bz<win
    ·have v8:vc .gtr win bz=true:=by rw[qc,gtr_true];exact hb
     have hR1:R=.err 40:=hRp _ (by rw[if_neg (fun h=>h hY),if_pos hb]);rw[v8];cbv;refine⟨[],[0,1],.tup [.val (.pointer none),.lit .i64 40],[.one 146 [.slice 1 (.n o3) 1 q3 c3,.int .i64 u3,.val .nilFunc],.ro .u8 b],rfl,rfl,rfl,rfl,rfl,?_,?_⟩
     ·exact⟨rfl,rfl,trivial⟩
     ·exact hE 40 hR1 _ _ _ _
    have v8:vc .gtr win bz=false:=by rw[qc,gtr_false];exact hb
    have hR1:=hG1 (hRp _ (by rw[if_neg (fun h=>h hY),if_neg hb]));rw[v8];cbv;rw[emo,emw];refine⟨[],[0,1,2],.tup [.ptr 2 .z 15 0,.lit .i64 0],[.one 146 [.slice 1 (.n o3) 1 q3 c3,.int .i64 u3,.val .nilFunc],.ro .u8 b,.one 107 [.val (.slice none 0 0),.val (.slice none 0 0),.val (.slice none 0 0),.val (.slice none 0 0),.lit .i64 1,.lit .i64 4,.lit .i64 8,.int .u64 win,.int .i64 most,.int .u64 siz,.bool td,.bool sm,.lit .u64 0,.val (.slice none 0 0),.lit .i64 0]],rfl,rfl,rfl,rfl,rfl,?_,?_⟩
    ·exact⟨rfl,rfl,rfl,trivial⟩
    ·exact hR1
  ·cbv;rw[v5f hz2];cbv;rw[eS0 hz2];by_cases hw1:wn=1
   ·cbv;rw[v6t hw1];cbv;rw[ho20];(repeat first|refine And.intro ⟨hin0 hw1⟩ ?_|refine And.intro ⟨hlx (htw hw1)⟩ ?_);rw[hgx (htw hw1)];refine And.intro ⟨enn⟩ ?_
    (repeat first|refine And.intro ⟨hin0 hw1⟩ ?_|refine And.intro ⟨hlx (htw hw1)⟩ ?_);rw[eW hw1,ewi,ewt,ewdt];refine⟨⟨hin1⟩,⟨hin3⟩,?_⟩
    rw[eo5,edn,←hc5];refine ka (ρ:=[(1,.n o5)]) hn5 ⟨by rfl,by rfl,by rfl,by cbv;exact⟨hv5,trivial⟩⟩ ?_
    rintro v H R' js ⟨rfl,rfl,rfl⟩;cbv;by_cases hY:Y0=0
    rotate_left
    ·have v7:vc .neq Y0 0=true:=by rw[qc,kz];exact hY
     have hR1:R=.err 12:=hRp _ (if_pos hY);rw[v7];cbv;refine⟨[],[0,1],.tup [.val (.pointer none),.lit .i64 12],[.one 146 [.slice 1 (.n o3) 1 q3 c3,.int .i64 u3,.val .nilFunc],.ro .u8 b],rfl,rfl,rfl,rfl,rfl,?_,?_⟩
     ·exact⟨rfl,rfl,trivial⟩
     ·exact hE 12 hR1 _ _ _ _
    have v7:vc .neq Y0 0=false:=by rw[qc,kQ];exact fun h=>h hY
    rw[v7];cbv;rw[←hbm,ebz,ebu];by_cases hb:bz<win
    ·have v8:vc .gtr win bz=true:=by rw[qc,gtr_true];exact hb
     have hR1:R=.err 40:=hRp _ (by rw[if_neg (fun h=>h hY),if_pos hb]);rw[v8];cbv;refine⟨[],[0,1],.tup [.val (.pointer none),.lit .i64 40],[.one 146 [.slice 1 (.n o3) 1 q3 c3,.int .i64 u3,.val .nilFunc],.ro .u8 b],rfl,rfl,rfl,rfl,rfl,?_,?_⟩
     ·exact⟨rfl,rfl,trivial⟩
     ·exact hE 40 hR1 _ _ _ _
    have v8:vc .gtr win bz=false:=by rw[qc,gtr_false];exact hb
    have hR1:=hG1 (hRp _ (by rw[if_neg (fun h=>h hY),if_neg hb]));rw[v8];cbv;rw[emo,emw];refine⟨[],[0,1,2],.tup [.ptr 2 .z 15 0,.lit .i64 0],[.one 146 [.slice 1 (.n o3) 1 q3 c3,.int .i64 u3,.val .nilFunc],.ro .u8 b,.one 107 [.val (.slice none 0 0),.val (.slice none 0 0),.val (.slice none 0 0),.val (.slice none 0 0),.lit .i64 1,.lit .i64 4,.lit .i64 8,.int .u64 win,.int .i64 most,.int .u64 siz,.bool td,.bool sm,.lit .u64 0,.val (.slice none 0 0),.lit .i64 0]],rfl,rfl,rfl,rfl,rfl,?_,?_⟩
    ·exact⟨rfl,rfl,rfl,trivial⟩
    ·exact hR1
   ·cbv;rw[v6f hw1];cbv;rw[emx hw1,ewi,ewt,ewdt];refine⟨⟨hin1⟩,⟨hin3⟩,?_⟩
    rw[eo5,edn,←hc5];refine ka (ρ:=[(1,.n o5)]) hn5 ⟨by rfl,by rfl,by rfl,by cbv;exact⟨hv5,trivial⟩⟩ ?_
    rintro v H R' js ⟨rfl,rfl,rfl⟩;cbv;by_cases hY:Y0=0
    rotate_left
    ·have v7:vc .neq Y0 0=true:=by rw[qc,kz];exact hY
     have hR1:R=.err 12:=hRp _ (if_pos hY);rw[v7];cbv;refine⟨[],[0,1],.tup [.val (.pointer none),.lit .i64 12],[.one 146 [.slice 1 (.n o3) 1 q3 c3,.int .i64 u3,.val .nilFunc],.ro .u8 b],rfl,rfl,rfl,rfl,rfl,?_,?_⟩
     ·exact⟨rfl,rfl,trivial⟩
     ·exact hE 12 hR1 _ _ _ _
    have v7:vc .neq Y0 0=false:=by rw[qc,kQ];exact fun h=>h hY
    rw[v7];cbv;rw[←hbm,ebz,ebu];by_cases hb:bz<win
    ·have v8:vc .gtr win bz=true:=by rw[qc,gtr_true];exact hb
     have hR1:R=.err 40:=hRp _ (by rw[if_neg (fun h=>h hY),if_pos hb]);rw[v8];cbv;refine⟨[],[0,1],.tup [.val (.pointer none),.lit .i64 40],[.one 146 [.slice 1 (.n o3) 1 q3 c3,.int .i64 u3,.val .nilFunc],.ro .u8 b],rfl,rfl,rfl,rfl,rfl,?_,?_⟩
     ·exact⟨rfl,rfl,trivial⟩
     ·exact hE 40 hR1 _ _ _ _
    have v8:vc .gtr win bz=false:=by rw[qc,gtr_false];exact hb
    have hR1:=hG1 (hRp _ (by rw[if_neg (fun h=>h hY),if_neg hb]));rw[v8];cbv;rw[emo,emw];refine⟨[],[0,1,2],.tup [.ptr 2 .z 15 0,.lit .i64 0],[.one 146 [.slice 1 (.n o3) 1 q3 c3,.int .i64 u3,.val .nilFunc],.ro .u8 b,.one 107 [.val (.slice none 0 0),.val (.slice none 0 0),.val (.slice none 0 0),.val (.slice none 0 0),.lit .i64 1,.lit .i64 4,.lit .i64 8,.int .u64 win,.int .i64 most,.int .u64 siz,.bool td,.bool sm,.lit .u64 0,.val (.slice none 0 0),.lit .i64 0]],rfl,rfl,rfl,rfl,rfl,?_,?_⟩
    ·exact⟨rfl,rfl,rfl,trivial⟩
    ·exact hR1
set_option maxHeartbeats 4000000
def trn (x n:Int):Int:=bV .or .u64 (bV .shl .u64 x n) (bV .shr .u64 x (bV .sub .i64 64 n))
def kaz (a x:Int):Int:=bV .mul .u64 (trn (bV .add .u64 a (bV .mul .u64 x 14029467366897019727)) 31) 11400714785074694791
def ltl (b:List Int):Nat→Int
 |0=>0
 |k+1=>bV .or .u64 (bV .shl .u64 (ltl b k) 8) (IntKind.u64.wrap (b.getD (b.length-1-k) 0))
theorem kiS (x n:Int) (hn:0≤n∧n≤64):Con Try.prog 166 [.int .u64 x,.int .i64 n] [] (fun v H R=>v=.int .u64 (trn x n)∧H=[]∧R=[]):=by
 obtain⟨r,hr⟩:∃r,r=trn x n:=⟨_,rfl⟩;have h64:bV .sub .i64 64 n=64-n:=kJ (by omega) (by omega);unfold trn at hr;have hnn:0≤bV .sub .i64 64 n:=by rw[h64];omega
 refine kf (kg (kc kj kri ?_))
 intro _ _ _ _ _ _ _ _ _ _ _ _ _ _ _ _ _ _ _ _ _ _ qb _ _ _ _ _ _ _ _ _ _ _ _ _ _ _ _ _ _ _ _;have hm:=kj;generalize Try.prog=P at *;rw[←qb] at hr hnn;unfold trn;rw[←qb];cbv;exact⟨⟨hn.1⟩,⟨hnn⟩,trivial⟩
theorem kgJ (a x:Int):Con Try.prog 164 [.int .u64 a,.int .u64 x] [] (fun v H R=>v=.int .u64 (kaz a x)∧H=[]∧R=[]):=by
 have ht:=fun y=>kiS y 31 (by decide)
 obtain⟨y,hy⟩:∃y,y=bV .add .u64 a (bV .mul .u64 x 14029467366897019727):=⟨_,rfl⟩;have ht:=ht y;obtain⟨z,hz⟩:∃z,z=trn y 31:=⟨_,rfl⟩;rw[←hz] at ht;obtain⟨r,hr⟩:∃r,r=kaz a x:=⟨_,rfl⟩;rw[←hr];unfold kaz at hr;rw[←hy,←hz] at hr;refine kf (kg (kc kj krg ?_))
 intro _ _ _ _ _ _ _ _ _ _ _ _ _ _ _ _ _ _ _ _ _ _ qb _ _ _ _ _ _ _ _ _ _ _ _ _ _ _ _ _ _ _ _;have hm:=kj;generalize Try.prog=P at *;rw[←qb] at hr hy;cbv;rw[←hy];refine ka (ρ:=[]) ht ⟨by rfl,by rfl,by rfl,by cbv⟩ ?_
 rintro v H R js ⟨rfl,rfl,rfl⟩;cbv;rw[←hr];exact⟨rfl,trivial⟩
theorem kcP (b:List Int) (cap:Nat) (hl:b.length≤1000):Con Try.prog 165 [.slice 0 .z 1 b.length cap] [.ro .u8 b] (fun v H R=>v=.int .u64 (ltl b b.length)∧H=[.ro .u8 b]∧R=[]):=by
 obtain⟨n,hn⟩:∃n,n=b.length:=⟨_,rfl⟩;have hst:∀k,ltl b (k+1)=bV .or .u64 (bV .shl .u64 (ltl b k) 8) (IntKind.u64.wrap (b.getD (n-1-k) 0)):=fun k=>by rw[hn];rfl
 have h0:ltl b 0=0:=rfl;obtain⟨F,hF⟩:∃F,F=ltl b:=⟨_,rfl⟩;rw[←hF] at hst h0 ⊢
 rw[←hn] at hl ⊢
 refine kf (kw 1 (by simp) (kg (kc kj krh ?_)))
 intro vb vc vw vtoN vofN vaddN _ _ _ _ vgd _ vln _ _ _ _ _ _ _ _ hw qb qc qw qtoN qofN qaddN _ _ _ _ qgd _ qln _ _ _ _ _ _ _ _;have hm:=kj;generalize Try.prog=P at *;have hst:∀k,k<n→vb .or .u64 (vb .shl .u64 (F k) 8) (vw .u64 (vgd b (n-1-k)))=F (k+1):=fun k _=>by rw[hst k,qb,qw,qgd]
 obtain⟨ni,hni⟩:∃ni:Int,ni=n:=⟨_,rfl⟩;have ho:vofN n=ni:=by simp only[qofN];exact hni.symm
 obtain⟨m1,hm1⟩:∃x:Int,x=(n:Int)-1:=⟨_,rfl⟩;have es:vb .sub .i64 ni 1=m1:=by rw[qb,hni,hm1];exact kJ (by omega) (by omega)
 have hadd0:∀i,vaddN 0 i=i:=fun i=>by simp only[qaddN,Nat.zero_add]
 have hln:vln b=n:=by simp only[qln];exact hn.symm
 cbv;rw[ho,es];refine kG (α:=Int×Nat×Int) ((List.range' 4 15)) [] (fun(i,k,x)=>[(3,.int .i64 i),(2,.int .u64 x)]) (fun _=>[]) (fun(i,k,x)=>k≤n∧i=(n:Int)-1-k∧x=F k) (fun(i,k,x)=>n-k) hw hm ?_ ?_
 ·refine Cv.genAt [2,3] [] (Cv.fold ((List.range' 4 15)) 1 [] (by exact Nat.le_refl _) (by exact Nat.le_of_ble_eq_true rfl) (by rfl) (by cbv) ?_)
  intro js;exact⟨(m1,0,0),⟨Nat.zero_le _,by rw[hm1];simp,h0.symm⟩,js,rfl⟩
 ·rintro⟨i,k,x⟩ js ⟨hk,hi,hx⟩;by_cases hlt:k<n
  ·have hge:vc .geq i 0=true:=by rw[qc,jm];omega
   obtain⟨q,hq⟩:∃q:Nat,q=n-1-k:=⟨_,rfl⟩;have hiq:i=q:=by omega
   have hti:vtoN i=q:=by rw[hiq];simp only[qtoN,Int.toNat_natCast]
   have hin:0≤i∧i<(n:Int):=by omega
   have hqn:vaddN 0 q<vln b:=by rw[hadd0,hln];omega
   have hqn':q<vln b:=by rw[hln];omega
   obtain⟨i1,hi1⟩:∃x:Int,x=(n:Int)-1-((k+1:Nat):Int):=⟨_,rfl⟩;have ei:vb .sub .i64 i 1=i1:=by rw[qb,hi1,kJ (by omega) (by omega)];omega
   have hF1:=hst k hlt;rw[←hq,←hx] at hF1;have hmu:n-(k+1)<n-k:=by omega
   cbv;rw[hge];cbv;rw[hti,hadd0];refine⟨⟨hin⟩,⟨hqn'⟩,⟨hqn'⟩,?_⟩
   rw[hF1,ei];refine Cv.fold ((List.range' 4 15)) 1 [] (by exact Nat.le_refl _) (by exact Nat.le_of_ble_eq_true rfl) (by rfl) (by cbv) ?_
   intro js;exact⟨(i1,k+1,F (k+1)),⟨⟨hlt,hi1,rfl⟩,hmu⟩,js,rfl⟩
  ·have hge:vc .geq i 0=false:=by rw[qc,kZ];omega
   have hkn:k=n:=by omega
   cbv;rw[hge];cbv;rw[hx,hkn];exact⟨rfl,trivial⟩
def xA0:Int:=6983438078262162902
def xD0:Int:=7046029288634856825
theorem knW:Con Try.prog 135 [] [] (fun v H R=>v=.ptr 0 .z 6 0∧H=[.one 241 [.int .u64 xA0,.int .u64 14029467366897019727,.int .u64 0,.int .u64 xD0,.val (.slice none 0 0),.int .u64 0]]∧R=[]):=by
 have eA:xA0=bV .add .u64 11400714785074694791 14029467366897019727:=by decide
 have eD:xD0=IntKind.u64.wrap (-11400714785074694791):=by decide
 rw[eA,eD];refine kf (kg (kc kj krf ?_))
 intro _ _ _ _ _ _ _ _ _ _ _ _ _ _ _ _ _ _ _ _ _ _ _ _ _ _ _ _ _ _ _ _ _ _ _ _ _ _ _ _ _ _ _;have hm:=kj;generalize Try.prog=P at *;cbv
theorem knX:Con Try.prog 125 [.lit .i64 3] [] (fun v H R=>v=.ptr 1 .z 1 0∧H=[.one 241 [.int .u64 xA0,.int .u64 14029467366897019727,.int .u64 0,.int .u64 xD0,.val (.slice none 0 0),.int .u64 0],.one 231 [.iface 232 (.ptr 0 .z 6 0)]]∧R=[]):=by
 have h:=knW;obtain⟨A,hA⟩:∃x,x=xA0:=⟨_,rfl⟩;obtain⟨D,hD⟩:∃x,x=xD0:=⟨_,rfl⟩;rw[←hA,←hD] at h ⊢
 refine kf (kg (kc kj krc ?_))
 intro _ _ _ _ _ _ _ _ _ _ _ _ _ _ _ _ _ _ _ _ _ _ _ _ _ _ _ _ _ _ _ _ _ _ _ _ _ _ _ _ _ _ _;have hm:=kj;generalize Try.prog=P at *;cbv;refine ka (ρ:=[]) h ⟨by rfl,by rfl,by rfl,by cbv⟩ ?_
 rintro v H R js ⟨rfl,rfl,rfl⟩;cbv
def lnX (b:List Int):Nat→Int×Int×Int×Int
 |0=>(xA0,14029467366897019727,0,xD0)
 |k+1=>(kaz (lnX b k).1 (ltl (sg b (32*k) 8) 8),kaz (lnX b k).2.1 (ltl (sg b (32*k+8) 8) 8),kaz (lnX b k).2.2.1 (ltl (sg b (32*k+16) 8) 8),kaz (lnX b k).2.2.2 (ltl (sg b (32*k+24) 8) 8))
theorem kcm {b:List Int} {k n:Nat} (h:k+n≤b.length):qp k (sg b k n) b:=by
 refine⟨by rw[kP h];omega,fun i hi=>?_⟩
 rw[kP h] at hi;exact khi hi
theorem kmb {b:List Int} {o q m:Nat} (hq:q+m=b.length) (ho:o=m∨q=0):(b.drop o).take q=b.drop m:=by
 rcases ho with rfl|rfl
 ·exact List.take_of_length_le (by rw[List.length_drop];omega)
 ·rw[List.take_zero,List.drop_eq_nil_of_le (by omega)]
theorem kpr (b:List Int) (c0:Nat) (hl:b.length≤140737488355328) :
  Con Try.prog 162 [.ptr 0 .z 6 0,.slice 1 .z 1 b.length c0] [.one 241 [.int .u64 xA0,.int .u64 14029467366897019727,.int .u64 0,.int .u64 xD0,.val (.slice none 0 0),.int .u64 0],.ro .u8 b]
   (fun v H R=>v=.tup []∧R=[]∧∃(A B C D:Int) (k r c c':Nat) (n:Int),lnX b (b.length / 32)=(A,B,C,D)∧k=32*(b.length / 32)∧r=b.length-k∧n=b.length∧r≤c ∧
    H=[.one 241 [.int .u64 A,.int .u64 B,.int .u64 C,.int .u64 D,.slice 2 .z 1 r c,.int .u64 n],.ro .u8 b,.buf 5 .u8 (b.drop k) c']):=by
 obtain⟨L,hL⟩:∃L,L=b.length:=⟨_,rfl⟩;have hlit:=fun k cap (h:k+8≤b.length)=>kcP (sg b k 8) cap (by rw[kP h];decide)
 have hrnd:=kgJ;have hX0:lnX b 0=(xA0,14029467366897019727,0,xD0):=rfl;have hXs:∀k,lnX b (k+1)=(kaz (lnX b k).1 (ltl (sg b (32*k) 8) 8),kaz (lnX b k).2.1 (ltl (sg b (32*k+8) 8) 8),kaz (lnX b k).2.2.1 (ltl (sg b (32*k+16) 8) 8),kaz (lnX b k).2.2.2 (ltl (sg b (32*k+24) 8) 8)):=fun _=>rfl
 obtain⟨X,hX⟩:∃X,X=lnX b:=⟨_,rfl⟩;rw[←hX] at hX0 hXs ⊢
 obtain⟨A0,hA0⟩:∃x,x=xA0:=⟨_,rfl⟩;obtain⟨D0,hD0⟩:∃x,x=xD0:=⟨_,rfl⟩;rw[←hA0,←hD0] at hX0 ⊢
 rw[←hL] at hl ⊢
 obtain⟨Li,hLi⟩:∃x:Int,x=L:=⟨_,rfl⟩;rw[←hLi];refine kf (kw 3 (by simp) (kg (kc kj fn162 ?_)))
 intro vb vc vw _ vofN vaddN vsubN _ _ vcutN _ _ vln _ vsub vonto _ _ _ _ _ hw qb qc qw _ qofN qaddN qsubN _ _ qcutN _ _ qln _ qsub qonto _ _ _ _ _;have hm:=kj;generalize Try.prog=P at *;have ho:∀n:Nat,vofN n=(n:Int):=fun n=>by simp only[qofN]
 have oL:vofN L=Li:=by rw[ho];exact hLi.symm
 have ewL:vw .u64 Li=Li:=by rw[qw];exact wrap_u64 (by omega) (by omega)
 have eaL:vb .add .u64 0 Li=Li:=by rw[qb];show IntKind.u64.wrap (0+Li)=Li;rw[Int.zero_add];exact wrap_u64 (by omega) (by omega)
 have hln:vln b=L:=by simp only[qln];exact hL.symm
 have hadd0:∀i,vaddN 0 i=i:=fun i=>by simp only[qaddN,Nat.zero_add]
 have hsb0:vsub b 0 L=b:=by simp only[qsub,List.drop_zero];rw[hL];exact List.take_length
 have hle0:Le (vaddN 0 L) (vln b):=⟨by rw[hadd0,hln];exact Nat.le_refl _⟩;have hfit:Fits L 1:=⟨by omega⟩;cbv;rw[oL,ewL,eaL];refine⟨hle0,hfit,?_⟩
 intro c hc;rw[hsb0];cbv;refine WX.cv (Cv.slotEq 4 (v:=.slice 2 .z 1 L c) (.slice 2 (.n 0) 1 L c) (by rfl) (fun σ=>by simp[den,ixN]) (Cv.here ?_))
 refine kG (α:=Nat×Nat×Nat×Nat×Int×Int×Int×Int) ([5]++(List.range' 29 29)) [] (fun(k,o,q,cp,A,B,C,D)=>[(4,.slice 2 (.n o) 1 q cp)])
  (fun(k,o,q,cp,A,B,C,D)=>[(0,.one 241 [.int .u64 A,.int .u64 B,.int .u64 C,.int .u64 D,.slice 2 .z 1 L c,.int .u64 Li])])
  (fun(k,o,q,cp,A,B,C,D)=>X k=(A,B,C,D)∧q+32*k=L∧cp+32*k=c∧SA L c o (32*k)) (fun(k,o,q,cp,A,B,C,D)=>q) hw hm ?_ ?_
 ·refine Cv.genAt [] [0] (Cv.fold ([5]++(List.range' 29 29)) 3 [] (by exact Nat.le_refl _) (by exact Nat.le_of_ble_eq_true rfl) (by rfl) (by cbv) ?_)
  intro js;exact⟨(0,0,L,c,A0,14029467366897019727,0,D0),⟨hX0,rfl,rfl,SA.zero hc.out⟩,js,rfl⟩
 ·rintro⟨k,o,q,cp,A,B,C,D⟩ js ⟨hXk,hq,hcp,hsa⟩;by_cases h32:32≤q
  ·obtain⟨qi,hqi⟩:∃x:Int,x=q:=⟨_,rfl⟩;have oq:vofN q=qi:=by rw[ho];exact hqi.symm
   have hge:vc .geq qi 32=true:=by rw[qc,jm];omega
   have hok:o=32*k:=by have:=hsa.at';have:=hsa.Lc;omega
   have hLc:=hsa.Lc;obtain⟨p0,hp0⟩:∃x,x=32*k+0:=⟨_,rfl⟩;obtain⟨d0,hd0⟩:∃x,x=vsubN cp 0:=⟨_,rfl⟩;have ec0:vcutN o 0 cp=p0:=by rw[qcutN,hp0,hok];exact if_neg (by omega)
   have es0:vsubN 8 0=8:=by rw[qsubN]
   have hc0:=hlit p0 d0 (by omega);rw[kP (show p0+8≤b.length by omega)] at hc0;obtain⟨S0,hS0⟩:∃l,l=sg b p0 8:=⟨_,rfl⟩;have hv0:qp p0 S0 b:=by rw[hS0];exact kcm (by omega)
   obtain⟨y0,hy0⟩:∃x,x=ltl S0 8:=⟨_,rfl⟩;rw[←hS0,←hy0] at hc0;have hr0:=hrnd A y0;obtain⟨r0,hR0⟩:∃x,x=kaz A y0:=⟨_,rfl⟩;rw[←hR0] at hr0;obtain⟨p1,hp1⟩:∃x,x=32*k+8:=⟨_,rfl⟩;obtain⟨d1,hd1⟩:∃x,x=vsubN cp 8:=⟨_,rfl⟩;have ec1:vcutN o 8 cp=p1:=by rw[qcutN,hp1,hok];exact if_neg (by omega)
   have es1:vsubN 16 8=8:=by rw[qsubN]
   have hc1:=hlit p1 d1 (by omega);rw[kP (show p1+8≤b.length by omega)] at hc1;obtain⟨S1,hS1⟩:∃l,l=sg b p1 8:=⟨_,rfl⟩;have hv1:qp p1 S1 b:=by rw[hS1];exact kcm (by omega)
   obtain⟨y1,hy1⟩:∃x,x=ltl S1 8:=⟨_,rfl⟩;rw[←hS1,←hy1] at hc1;have hr1:=hrnd B y1;obtain⟨r1,hR1⟩:∃x,x=kaz B y1:=⟨_,rfl⟩;rw[←hR1] at hr1;obtain⟨p2,hp2⟩:∃x,x=32*k+16:=⟨_,rfl⟩;obtain⟨d2,hd2⟩:∃x,x=vsubN cp 16:=⟨_,rfl⟩;have ec2:vcutN o 16 cp=p2:=by rw[qcutN,hp2,hok];exact if_neg (by omega)
   have es2:vsubN 24 16=8:=by rw[qsubN]
   have hc2:=hlit p2 d2 (by omega);rw[kP (show p2+8≤b.length by omega)] at hc2;obtain⟨S2,hS2⟩:∃l,l=sg b p2 8:=⟨_,rfl⟩;have hv2:qp p2 S2 b:=by rw[hS2];exact kcm (by omega)
   obtain⟨y2,hy2⟩:∃x,x=ltl S2 8:=⟨_,rfl⟩;rw[←hS2,←hy2] at hc2;have hr2:=hrnd C y2;obtain⟨r2,hR2⟩:∃x,x=kaz C y2:=⟨_,rfl⟩;rw[←hR2] at hr2;obtain⟨p3,hp3⟩:∃x,x=32*k+24:=⟨_,rfl⟩;obtain⟨d3,hd3⟩:∃x,x=vsubN cp 24:=⟨_,rfl⟩;have ec3:vcutN o 24 cp=p3:=by rw[qcutN,hp3,hok];exact if_neg (by omega)
   have es3:vsubN 32 24=8:=by rw[qsubN]
   have hc3:=hlit p3 d3 (by omega);rw[kP (show p3+8≤b.length by omega)] at hc3;obtain⟨S3,hS3⟩:∃l,l=sg b p3 8:=⟨_,rfl⟩;have hv3:qp p3 S3 b:=by rw[hS3];exact kcm (by omega)
   obtain⟨y3,hy3⟩:∃x,x=ltl S3 8:=⟨_,rfl⟩;rw[←hS3,←hy3] at hc3;have hr3:=hrnd D y3;obtain⟨r3,hR3⟩:∃x,x=kaz D y3:=⟨_,rfl⟩;rw[←hR3] at hr3;have hX1:X (k+1)=(r0,r1,r2,r3):=by rw[hXs k,hXk,hR0,hR1,hR2,hR3,hy0,hy1,hy2,hy3,hS0,hS1,hS2,hS3,hp0,hp1,hp2,hp3];rfl
   obtain⟨o2,ho2⟩:∃x,x=if cp=32 then o else o+32:=⟨_,rfl⟩
   have eco:vcutN o 32 cp=o2:=by rw[qcutN,ho2]
   obtain⟨q2,hq2⟩:∃x,x=q-32:=⟨_,rfl⟩;have eq2:vsubN q 32=q2:=by simp only[qsubN];exact hq2.symm
   obtain⟨cp2,hcp2⟩:∃x,x=cp-32:=⟨_,rfl⟩;have ecp2:vsubN cp 32=cp2:=by simp only[qsubN];exact hcp2.symm
   have hsa2:=hsa.take (n:=32) (o2:=o2) (by omega) (by rw[show c-32*k=cp by omega];exact ho2);have hinv:X (k+1)=(r0,r1,r2,r3)∧q2+32*(k+1)=L∧cp2+32*(k+1)=c∧SA L c o2 (32*(k+1)):=⟨hX1,by omega,by omega,by rw[Nat.mul_succ];exact hsa2⟩;have hmu:q2<q:=by omega
   have hi0:(0:Int)≤8∧(8:Int)≤(cp:Int):=by omega
   have hi1:(0:Int)≤16∧(16:Int)≤(cp:Int):=by omega
   have hi2:(0:Int)≤24∧(24:Int)≤(cp:Int):=by omega
   have hi3:(0:Int)≤32∧(32:Int)≤(cp:Int):=by omega
   have hi4:(0:Int)≤32∧(32:Int)≤(q:Int):=by omega
   cbv;rw[oq,hge];cbv;refine WX.unr 5 hw hm ?_
   cbv;(repeat first|refine And.intro ⟨by decide⟩ ?_|refine And.intro ⟨hi0⟩ ?_|refine And.intro ⟨by decide,by decide⟩ ?_);rw[ec0,es0,←hd0];refine ka (ρ:=[(2,.n p0)]) hc0 ⟨by rfl,by rfl,by rfl,by cbv;exact⟨hv0,trivial⟩⟩ ?_
   rintro v H R js2 ⟨rfl,rfl,rfl⟩;cbv;refine ka (ρ:=[]) hr0 ⟨by rfl,by rfl,by rfl,by cbv⟩ ?_
   rintro v H R js3 ⟨rfl,rfl,rfl⟩;cbv;(repeat first|refine And.intro ⟨by decide⟩ ?_|refine And.intro ⟨hi1⟩ ?_|refine And.intro ⟨by decide,by decide⟩ ?_);rw[ec1,es1,←hd1];refine ka (ρ:=[(2,.n p1)]) hc1 ⟨by rfl,by rfl,by rfl,by cbv;exact⟨hv1,trivial⟩⟩ ?_
   rintro v H R js4 ⟨rfl,rfl,rfl⟩;cbv;refine ka (ρ:=[]) hr1 ⟨by rfl,by rfl,by rfl,by cbv⟩ ?_
   rintro v H R js5 ⟨rfl,rfl,rfl⟩;cbv;(repeat first|refine And.intro ⟨by decide⟩ ?_|refine And.intro ⟨hi2⟩ ?_|refine And.intro ⟨by decide,by decide⟩ ?_);rw[ec2,es2,←hd2];refine ka (ρ:=[(2,.n p2)]) hc2 ⟨by rfl,by rfl,by rfl,by cbv;exact⟨hv2,trivial⟩⟩ ?_
   rintro v H R js6 ⟨rfl,rfl,rfl⟩;cbv;refine ka (ρ:=[]) hr2 ⟨by rfl,by rfl,by rfl,by cbv⟩ ?_
   rintro v H R js7 ⟨rfl,rfl,rfl⟩;cbv;(repeat first|refine And.intro ⟨by decide⟩ ?_|refine And.intro ⟨hi3⟩ ?_|refine And.intro ⟨by decide,by decide⟩ ?_);rw[ec3,es3,←hd3];refine ka (ρ:=[(2,.n p3)]) hc3 ⟨by rfl,by rfl,by rfl,by cbv;exact⟨hv3,trivial⟩⟩ ?_
   rintro v H R js8 ⟨rfl,rfl,rfl⟩;cbv;refine ka (ρ:=[]) hr3 ⟨by rfl,by rfl,by rfl,by cbv⟩ ?_
   rintro v H R js9 ⟨rfl,rfl,rfl⟩;cbv;refine⟨⟨by decide,by decide⟩,⟨hi4⟩,?_⟩
   rw[eco,eq2,ecp2];refine Cv.fold ([5]++(List.range' 29 29)) 3 [] (by exact Nat.le_refl _) (by exact Nat.le_of_ble_eq_true rfl) (by rfl) (by cbv) ?_
   intro js;exact⟨(k+1,o2,q2,cp2,r0,r1,r2,r3),⟨hinv,hmu⟩,js,rfl⟩
  ·obtain⟨qi,hqi⟩:∃x:Int,x=q:=⟨_,rfl⟩;have oq:vofN q=qi:=by rw[ho];exact hqi.symm
   have hge:vc .geq qi 32=false:=by rw[qc,kZ];omega
   have hkL:L / 32=k:=by omega
   obtain⟨m,hm'⟩:∃x,x=32*k:=⟨_,rfl⟩;have hLc:=hsa.Lc;have hdr:vsub b o q=b.drop m:=by rw[qsub,hm'];exact kmb (by rw[←hL];omega) (by have:=hsa.at';omega)
   obtain⟨D0',hD0'⟩:∃l,l=b.drop m:=⟨_,rfl⟩;rw[←hD0'] at hdr;have hon:vonto b 0 D0'=D0':=by simp only[qonto,List.take_zero,List.nil_append]
   have hoq:vaddN o q≤vln b:=by rw[qaddN,hln];show o+q≤L;have:=hsa.ok;omega
   have h0q:vaddN 0 q=q:=hadd0 q;have hfq:q*1≤140737488355328:=by omega
   have h0c:(0:Int)≤0∧(0:Int)≤(c:Int):=by omega
   have hfin:X (L / 32)=(A,B,C,D)∧m=32*(L / 32)∧q=L-m∧Li=(L:Int):=⟨by rw[hkL];exact hXk,by rw[hkL];exact hm',by omega,hLi⟩;cbv;rw[oq,hge];cbv;rw[h0q,hdr];refine⟨⟨h0c⟩,⟨hoq⟩,⟨Nat.zero_le _⟩,⟨Nat.le_refl _⟩,⟨hfq⟩,?_⟩
   intro c2 js2 hc2;have hc2:Le (vaddN 0 q) c2:=hc2;rw[h0q] at hc2;have hqc:q≤c2:=hc2.out;cbv;rw[h0q,hon];refine⟨A,B,C,D,m,q,c2,c2,Li,hfin.1,hfin.2.1,hfin.2.2.1,rfl,hqc,?_⟩
   rw[←hD0'];rfl
def kps (x a:Int):Int:=bV .add .u64 (bV .mul .u64 (bV .xor .u64 x (kaz 0 a)) 11400714785074694791) 9650029242287828579
def ksH (A B C D:Int):Int:=bV .add .u64 (bV .add .u64 (bV .add .u64 (bV .add .u64 0 (trn A 1)) (trn B 7)) (trn C 12)) (trn D 18)
def kpt (n A B C D:Int):Int:=if 32≤n then kps (kps (kps (kps (ksH A B C D) A) B) C) D else 2870177450012600261
def v8 (r:List Int) (x:Int):Nat→Int
 |0=>x
 |k+1=>bV .add .u64 (bV .mul .u64 (trn (bV .xor .u64 (v8 r x k) (kaz 0 (ltl (sg r (8*k) 8) 8))) 27) 11400714785074694791) 9650029242287828579
def v4 (r:List Int) (x:Int) (p:Nat):Int:=bV .add .u64 (bV .mul .u64 (trn (bV .xor .u64 x (bV .mul .u64 (ltl (sg r p 4) 4) 11400714785074694791)) 23) 14029467366897019727) 1609587929392839161
def v1 (r:List Int) (x:Int) (p:Nat):Nat→Int
 |0=>x
 |j+1=>bV .mul .u64 (trn (bV .xor .u64 (v1 r x p j) (bV .mul .u64 (IntKind.u64.wrap (r.getD (p+j) 0)) 2870177450012600261)) 11) 11400714785074694791
def kiT (x:Int):Int:=
 let a:=bV .mul .u64 (bV .xor .u64 x (bV .shr .u64 x 33)) 14029467366897019727
 let b:=bV .mul .u64 (bV .xor .u64 a (bV .shr .u64 a 29)) 1609587929392839161
 bV .xor .u64 b (bV .shr .u64 b 32)
def kkA (r:List Int) (x:Int):Int:=
 let y:=v8 r x (r.length / 8)
 let p:=8*(r.length / 8)
 if 4≤r.length-p then kiT (v1 r (v4 r y p) (p+4) (r.length-p-4)) else kiT (v1 r y p (r.length-p))
def kjR (n A B C D:Int) (r:List Int):Int:=kkA r (bV .add .u64 (kpt n A B C D) n)
theorem kX (a:Int):∃x,x=a:=⟨a,rfl⟩
theorem k9 (a:Nat):∃x,x=a:=⟨a,rfl⟩
theorem kb3 (a:List Int):∃x,x=a:=⟨a,rfl⟩
theorem krJ {A B C D E F:Type} {Goal:Prop} (G Fc:A→B→C→D→E→F→Prop) (hm:(∀a b c d e f,Fc a b c d e f→G a b c d e f)→Goal) (hk:∀a b c d e f,Fc a b c d e f→G a b c d e f):Goal:=hm hk
theorem krK {A B:Type} {Goal:Prop} (G Fc:A→B→Prop) (hm:(∀a b,Fc a b→G a b)→Goal) (hk:∀a b,Fc a b→G a b):Goal:=hm hk
theorem kmc (r:List Int) (c c':Nat) (n A B C D:Int) (hl:r.length≤40) (hc:r.length≤c) :
  Con Try.prog 163 [.ptr 0 .z 6 0] [.one 241 [.int .u64 A,.int .u64 B,.int .u64 C,.int .u64 D,.slice 1 .z 1 r.length c,.int .u64 n],.buf 5 .u8 r c']
   (fun v H R=>v=.int .u64 (kjR n A B C D r)∧R=[]∧H=[.one 241 [.int .u64 A,.int .u64 B,.int .u64 C,.int .u64 D,.slice 1 .z 1 r.length c,.int .u64 n],.buf 5 .u8 r c']):=by
 obtain⟨L,hL⟩:∃L,L=r.length:=⟨_,rfl⟩;have htrn:=kiS;have hrnd:=kgJ;obtain⟨X0,hX0⟩:∃x,x=kpt n A B C D:=⟨_,rfl⟩;obtain⟨X1,hX1⟩:∃x,x=bV .add .u64 X0 n:=⟨_,rfl⟩;obtain⟨RS,hRS⟩:∃x,x=kjR n A B C D r:=⟨_,rfl⟩;have hRS2:RS=kkA r X1:=by rw[hRS,hX1,hX0];rfl
 rw[←hRS];clear hRS;rw[←hL] at hl hc ⊢
 have hA:=htrn A 1 (by decide);have hB:=htrn B 7 (by decide);have hC:=htrn C 12 (by decide);have hD:=htrn D 18 (by decide);obtain⟨tA,htA⟩:∃x,x=trn A 1:=⟨_,rfl⟩;obtain⟨tB,htB⟩:∃x,x=trn B 7:=⟨_,rfl⟩;obtain⟨tC,htC⟩:∃x,x=trn C 12:=⟨_,rfl⟩;obtain⟨tD,htD⟩:∃x,x=trn D 18:=⟨_,rfl⟩;rw[←htA] at hA;rw[←htB] at hB;rw[←htC] at hC;rw[←htD] at hD;have gA:=hrnd 0 A;have gB:=hrnd 0 B;have gC:=hrnd 0 C;have gD:=hrnd 0 D;obtain⟨rA,hrA⟩:∃x,x=kaz 0 A:=⟨_,rfl⟩;obtain⟨rB,hrB⟩:∃x,x=kaz 0 B:=⟨_,rfl⟩;obtain⟨rC,hrC⟩:∃x,x=kaz 0 C:=⟨_,rfl⟩;obtain⟨rD,hrD⟩:∃x,x=kaz 0 D:=⟨_,rfl⟩;rw[←hrA] at gA;rw[←hrB] at gB;rw[←hrC] at gC;rw[←hrD] at gD;have hbig:32≤n→bV .add .u64 (bV .mul .u64 (bV .xor .u64 (bV .add .u64 (bV .mul .u64 (bV .xor .u64 (bV .add .u64 (bV .mul .u64 (bV .xor .u64 (bV .add .u64 (bV .mul .u64 (bV .xor .u64 (bV .add .u64 (bV .add .u64 (bV .add .u64 (bV .add .u64 0 tA) tB) tC) tD) rA) 11400714785074694791) 9650029242287828579) rB) 11400714785074694791) 9650029242287828579) rC) 11400714785074694791) 9650029242287828579) rD) 11400714785074694791) 9650029242287828579=X0:=fun h=>by
  rw[hX0,htA,htB,htC,htD,hrA,hrB,hrC,hrD];unfold kpt;rw[if_pos h];rfl
 have hsml:¬32≤n→2870177450012600261=X0:=fun h=>by rw[hX0];unfold kpt;rw[if_neg h]
 have h80:v8 r X1 0=X1:=rfl;have h8s:∀k,v8 r X1 (k+1)=bV .add .u64 (bV .mul .u64 (trn (bV .xor .u64 (v8 r X1 k) (kaz 0 (ltl (sg r (8*k) 8) 8))) 27) 11400714785074694791) 9650029242287828579:=fun _=>rfl
 obtain⟨F8,hF8⟩:∃F,F=v8 r X1:=⟨_,rfl⟩;rw[←hF8] at h80 h8s;have hT4:∀k,L / 8=k→4≤L-8*k→RS=kiT (v1 r (v4 r (F8 k) (8*k)) (8*k+4) (L-8*k-4)):=fun k hk h=>by
  subst hk;rw[hRS2,hF8,hL];unfold kkA;rw[if_pos (by rw[←hL];exact h)]
 have hT0:∀k,L / 8=k→¬4≤L-8*k→RS=kiT (v1 r (F8 k) (8*k) (L-8*k)):=fun k hk h=>by
  subst hk;rw[hRS2,hF8,hL];unfold kkA;rw[if_neg (by rw[←hL];exact h)]
 have hlit:=fun k cap (h:k+8≤r.length)=>kcP (sg r k 8) cap (by rw[kP h];decide)
 have hlit4:=fun k cap (h:k+4≤r.length)=>kcP (sg r k 4) cap (by rw[kP h];decide)
 refine kf (kw 2 (by simp) (kg (kc kj fn163 ?_)))
 intro vb vc vw vtoN vofN vaddN vsubN _ _ vcutN vgd _ vln _ _ _ _ _ _ _ _ hw qb qc qw qtoN qofN qaddN qsubN _ _ qcutN qgd _ qln _ _ _ _ _ _ _ _;have hm:=kj;generalize Try.prog=P at *;have ho:∀n:Nat,vofN n=(n:Int):=fun n=>by simp only[qofN]
 rw[←qb] at hbig hX1;refine' krK _ (fun(js:Nat→Value) (x:Int)=>x=X1) (fun key=>?_) ?_
 rotate_left
 ·by_cases h32:32≤n
  ·have hge:vc .geq n 32=true:=by rw[qc,jm];exact h32
   cbv;rw[hge];cbv;refine WX.unr 5 hw hm ?_
   cbv;(repeat refine And.intro ⟨by decide,by decide⟩ ?_);refine ka (ρ:=[]) hA ⟨by rfl,by rfl,by rfl,by cbv⟩ ?_
   rintro v H R js ⟨rfl,rfl,rfl⟩;cbv;(repeat refine And.intro ⟨by decide,by decide⟩ ?_);refine ka (ρ:=[]) hB ⟨by rfl,by rfl,by rfl,by cbv⟩ ?_
   rintro v H R js ⟨rfl,rfl,rfl⟩;cbv;(repeat refine And.intro ⟨by decide,by decide⟩ ?_);refine ka (ρ:=[]) hC ⟨by rfl,by rfl,by rfl,by cbv⟩ ?_
   rintro v H R js ⟨rfl,rfl,rfl⟩;cbv;(repeat refine And.intro ⟨by decide,by decide⟩ ?_);refine ka (ρ:=[]) hD ⟨by rfl,by rfl,by rfl,by cbv⟩ ?_
   rintro v H R js ⟨rfl,rfl,rfl⟩;cbv;refine WX.unr 5 hw hm ?_
   cbv;(repeat refine And.intro ⟨by decide,by decide⟩ ?_);refine ka (ρ:=[]) gA ⟨by rfl,by rfl,by rfl,by cbv⟩ ?_
   rintro v H R js ⟨rfl,rfl,rfl⟩;cbv;(repeat refine And.intro ⟨by decide,by decide⟩ ?_);refine ka (ρ:=[]) gB ⟨by rfl,by rfl,by rfl,by cbv⟩ ?_
   rintro v H R js ⟨rfl,rfl,rfl⟩;cbv;(repeat refine And.intro ⟨by decide,by decide⟩ ?_);refine ka (ρ:=[]) gC ⟨by rfl,by rfl,by rfl,by cbv⟩ ?_
   rintro v H R js ⟨rfl,rfl,rfl⟩;cbv;(repeat refine And.intro ⟨by decide,by decide⟩ ?_);refine ka (ρ:=[]) gD ⟨by rfl,by rfl,by rfl,by cbv⟩ ?_
   rintro v H R js ⟨rfl,rfl,rfl⟩;cbv;rw[hbig h32,←hX1];refine Exists.elim (kX X1) (fun XV hXV=>?_)
   rw[←hXV];refine WX.cv (Cv.slotEq 8 (v:=.slice 1 .z 1 L c) (.slice 1 (.n 0) 1 L c) (by rfl) (fun σ=>by simp[den,ixN]) (Cv.fold [4,5,7,1011045] 2 [] (by exact Nat.le_refl _) (by exact Nat.le_of_ble_eq_true rfl) (by rfl) (by cbv) ?_))
   intro js9;cbv;exact key js9 XV hXV
  ·have hge:vc .geq n 32=false:=by rw[qc,kZ];exact h32
   cbv;rw[hge];cbv;refine WX.cv (Cv.slotEq 3 (v:=.int .u64 (vb .add .u64 2870177450012600261 n)) (.int .u64 X1) (by rfl) (fun σ=>by rw[hX1,←hsml h32]) (Cv.slotEq 8 (v:=.slice 1 .z 1 L c) (.slice 1 (.n 0) 1 L c) (by rfl) (fun σ=>by simp[den,ixN]) (Cv.fold [4,5,7,1011045] 2 [] (by exact Nat.le_refl _) (by exact Nat.le_of_ble_eq_true rfl) (by rfl) (by cbv) ?_)))
   intro js9;cbv;exact key js9 X1 rfl
 ·intro js x hx;refine kG (α:=Nat×Nat×Nat×Nat×Int) (List.range' 56 14) [] (fun(k,o,q,cp,y)=>[(8,.slice 1 (.n o) 1 q cp),(3,.int .u64 y)]) (fun _=>[])
   (fun(k,o,q,cp,y)=>y=F8 k∧q+8*k=L∧cp+8*k=c∧SA L c o (8*k)) (fun(k,o,q,cp,y)=>q) hw hm ?_ ?_
  ·refine Cv.genAt [3] [] (Cv.fold ((List.range' 56 14)) 2 [] (by exact Nat.le_refl _) (by exact Nat.le_of_ble_eq_true rfl) (by rfl) (by cbv) ?_)
   intro js2;exact⟨(0,0,L,c,x),⟨by rw[hx];exact h80.symm,rfl,rfl,SA.zero hc⟩,js2,rfl⟩
  ·rintro⟨k,o,q,cp,y⟩ js2 ⟨hy,hq,hcp,hsa⟩;by_cases h8:8≤q
   ·have hLc:=hsa.Lc;have hge:vc .geq (q:Int) 8=true:=by rw[qc,jm];omega
    refine Exists.elim (kX (q:Int)) (fun qi hqi=>?_)
    have oq:vofN q=qi:=by rw[ho];exact hqi.symm
    rw[←hqi] at hge;refine Exists.elim (k9 (8*k)) (fun p hp=>?_)
    have hop:o=p:=by have:=hsa.at';omega
    have hc8:=hlit p cp (by omega);rw[kP (show p+8≤r.length by omega)] at hc8;refine Exists.elim (kb3 (sg r p 8)) (fun S hS=>?_)
    have hv:qp o S r:=by rw[hS,hop];exact kcm (by omega)
    refine Exists.elim (kX (ltl S 8)) (fun z hz=>?_)
    rw[←hS,←hz] at hc8;have hg:=hrnd 0 z;refine Exists.elim (kX (kaz 0 z)) (fun g hg'=>?_)
    rw[←hg'] at hg;refine Exists.elim (kX (vb .xor .u64 y g)) (fun e he=>?_)
    have ht:=htrn e 27 (by decide);refine Exists.elim (kX (trn e 27)) (fun t ht'=>?_)
    rw[←ht'] at ht;refine Exists.elim (kX (vb .add .u64 (vb .mul .u64 t 11400714785074694791) 9650029242287828579)) (fun y2 hy2=>?_)
    have hF:y2=F8 (k+1):=by rw[h8s k,←hy,hy2,ht',he,hg',hz,hS,hp,qb]
    refine Exists.elim (k9 (if cp=8 then o else o+8)) (fun o2 ho2=>?_)
    have eco:vcutN o 8 cp=o2:=by rw[qcutN,ho2]
    refine Exists.elim (k9 (q-8)) (fun q2 hq2=>?_)
    have eq2:vsubN q 8=q2:=by simp only[qsubN];exact hq2.symm
    refine Exists.elim (k9 (cp-8)) (fun cp2 hcp2=>?_)
    have ecp2:vsubN cp 8=cp2:=by simp only[qsubN];exact hcp2.symm
    have hsa2:=hsa.take (n:=8) (o2:=o2) (by omega) (by rw[show c-8*k=cp by omega];exact ho2);have hinv:y2=F8 (k+1)∧q2+8*(k+1)=L∧cp2+8*(k+1)=c∧SA L c o2 (8*(k+1)):=⟨hF,by omega,by omega,by rw[Nat.mul_succ];exact hsa2⟩;have hmu:q2<q:=by omega
    have hi1:(0:Int)≤8∧(8:Int)≤(cp:Int):=by omega
    have hi2:(0:Int)≤8∧(8:Int)≤(q:Int):=by omega
    cbv;rw[oq,hge];cbv;refine⟨⟨hi1⟩,?_⟩
    refine ka (ρ:=[(1,.n o)]) hc8 ⟨by rfl,by rfl,by rfl,by cbv;exact⟨hv,trivial⟩⟩ ?_
    rintro v H R js3 ⟨rfl,rfl,rfl⟩;cbv;refine ka (ρ:=[]) hg ⟨by rfl,by rfl,by rfl,by cbv⟩ ?_
    rintro v H R js3 ⟨rfl,rfl,rfl⟩;cbv;rw[←he];refine ka (ρ:=[]) ht ⟨by rfl,by rfl,by rfl,by cbv⟩ ?_
    rintro v H R js3 ⟨rfl,rfl,rfl⟩;cbv;rw[←hy2];refine⟨⟨hi2⟩,?_⟩
    rw[eco,eq2,ecp2];refine Cv.fold ((List.range' 56 14)) 2 [] (by exact Nat.le_refl _) (by exact Nat.le_of_ble_eq_true rfl) (by rfl) (by cbv) ?_
    intro js4;exact⟨(k+1,o2,q2,cp2,y2),⟨hinv,hmu⟩,js4,rfl⟩
   ·have hge:vc .geq (q:Int) 8=false:=by rw[qc,kZ];omega
    refine Exists.elim (kX (q:Int)) (fun qi hqi=>?_)
    have oq:vofN q=qi:=by rw[ho];exact hqi.symm
    rw[←hqi] at hge;have hk8:L / 8=k:=by omega
    have hLc:=hsa.Lc;refine' krJ _ (fun(js:Nat→Value) (o' q' cc:Nat) (w:Int) (p:Nat)=>q'+p=L∧(q'=0∨o'=p)∧o'≤L∧q'<4∧RS=kiT (v1 r w p q')) (fun key2=>?_) ?_
    rotate_left
    ·by_cases h4:4≤q
     ·have hge4:vc .geq qi 4=true:=by rw[qc,jm];omega
      refine Exists.elim (k9 (8*k)) (fun p hp=>?_)
      have hop:o=p:=by have:=hsa.at';omega
      have hc4:=hlit4 p cp (by omega);rw[kP (show p+4≤r.length by omega)] at hc4;refine Exists.elim (kb3 (sg r p 4)) (fun S hS=>?_)
      have hv:qp o S r:=by rw[hS,hop];exact kcm (by omega)
      refine Exists.elim (kX (ltl S 4)) (fun z hz=>?_)
      rw[←hS,←hz] at hc4;refine Exists.elim (kX (vb .xor .u64 y (vb .mul .u64 z 11400714785074694791))) (fun e he=>?_)
      have ht:=htrn e 23 (by decide);refine Exists.elim (kX (trn e 23)) (fun t ht'=>?_)
      rw[←ht'] at ht;refine Exists.elim (kX (vb .add .u64 (vb .mul .u64 t 14029467366897019727) 1609587929392839161)) (fun w hw'=>?_)
      have hw4:w=v4 r y p:=by rw[hw',ht',he,hz,hS,qb];rfl
      refine Exists.elim (k9 (if cp=4 then o else o+4)) (fun o3 ho3=>?_)
      have eco:vcutN o 4 cp=o3:=by rw[qcutN,ho3]
      refine Exists.elim (k9 (q-4)) (fun q3 hq3=>?_)
      have eq3:vsubN q 4=q3:=by simp only[qsubN];exact hq3.symm
      refine Exists.elim (k9 (cp-4)) (fun cp3 hcp3=>?_)
      have ecp3:vsubN cp 4=cp3:=by simp only[qsubN];exact hcp3.symm
      refine Exists.elim (k9 (p+4)) (fun p4 hp4=>?_)
      have hsa3:=hsa.take (n:=4) (o2:=o3) (by omega) (by rw[show c-8*k=cp by omega];exact ho3);have hfin:q3+p4=L∧(q3=0∨o3=p4)∧o3≤L∧q3<4∧RS=kiT (v1 r w p4 q3):=by
       refine⟨by omega,?_,?_,by omega,?_⟩
       ·have:=hsa3.at';omega
       ·have:=hsa3.ok;have:=hsa3.kL;omega
       ·rw[hT4 k hk8 (by omega),hw4,hp4,hp,hy,show q3=L-8*k-4 by omega]
      have hi1:(0:Int)≤4∧(4:Int)≤(cp:Int):=by omega
      have hi2:(0:Int)≤4∧(4:Int)≤(q:Int):=by omega
      cbv;rw[oq,hge];cbv;rw[oq,hge4];cbv;refine⟨⟨hi1⟩,?_⟩
      refine ka (ρ:=[(1,.n o)]) hc4 ⟨by rfl,by rfl,by rfl,by cbv;exact⟨hv,trivial⟩⟩ ?_
      rintro v H R js3 ⟨rfl,rfl,rfl⟩;cbv;rw[←he];refine ka (ρ:=[]) ht ⟨by rfl,by rfl,by rfl,by cbv⟩ ?_
      rintro v H R js3 ⟨rfl,rfl,rfl⟩;cbv;rw[←hw'];refine⟨⟨hi2⟩,?_⟩
      rw[eco,eq3,ecp3];refine WX.cv (Cv.fold [8,1056028] 2 [] (by exact Nat.le_refl _) (by exact Nat.le_of_ble_eq_true rfl) (by rfl) (by cbv) ?_)
      intro js4;cbv;exact key2 js4 o3 q3 cp3 w p4 hfin
     ·have hge4:vc .geq qi 4=false:=by rw[qc,kZ];omega
      refine Exists.elim (k9 (8*k)) (fun p hp=>?_)
      have hfin:q+p=L∧(q=0∨o=p)∧o≤L∧q<4∧RS=kiT (v1 r y p q):=by
       refine⟨by omega,?_,?_,by omega,?_⟩
       ·have:=hsa.at';omega
       ·have:=hsa.ok;have:=hsa.kL;omega
       ·rw[hT0 k hk8 (by omega),hp,hy,show q=L-8*k by omega]
      cbv;rw[oq,hge];cbv;rw[oq,hge4];cbv;refine WX.cv (Cv.fold [8,1056028] 2 [] (by exact Nat.le_refl _) (by exact Nat.le_of_ble_eq_true rfl) (by rfl) (by cbv) ?_)
      intro js4;cbv;exact key2 js4 o q cp y p hfin
    ·intro js5 o' q' cc w p ⟨h1,h2,h3,h4,h5⟩
     refine Exists.elim (kX (q':Int)) (fun qi' hqi'=>?_)
     have oq':vofN q'=qi':=by rw[ho];exact hqi'.symm
     have hv1:∀j,v1 r w p (j+1)=bV .mul .u64 (trn (bV .xor .u64 (v1 r w p j) (bV .mul .u64 (IntKind.u64.wrap (r.getD (p+j) 0)) 2870177450012600261)) 11) 11400714785074694791:=fun _=>rfl
     have hv0:v1 r w p 0=w:=rfl;have hE:kiT (v1 r w p q')=vb .xor .u64 (vb .mul .u64 (vb .xor .u64 (vb .mul .u64 (vb .xor .u64 (v1 r w p q') (vb .shr .u64 (v1 r w p q') 33)) 14029467366897019727) (vb .shr .u64 (vb .mul .u64 (vb .xor .u64 (v1 r w p q') (vb .shr .u64 (v1 r w p q') 33)) 14029467366897019727) 29)) 1609587929392839161) (vb .shr .u64 (vb .mul .u64 (vb .xor .u64 (vb .mul .u64 (vb .xor .u64 (v1 r w p q') (vb .shr .u64 (v1 r w p q') 33)) 14029467366897019727) (vb .shr .u64 (vb .mul .u64 (vb .xor .u64 (v1 r w p q') (vb .shr .u64 (v1 r w p q') 33)) 14029467366897019727) 29)) 1609587929392839161) 32):=by rw[qb];rfl
     rw[hE] at h5;generalize v1 r w p=V at hv1 hv0 h5;have hlnr:vln r=L:=by simp only[qln];exact hL.symm
     rw[oq'];refine kG (α:=Nat×Int×Int) ([10]++(List.range' 87 11)) [] (fun(j,i,y)=>[(86,.int .i64 i),(3,.int .u64 y)]) (fun _=>[]) (fun(j,i,y)=>i=j∧j≤q'∧y=V j) (fun(j,i,y)=>q'-j) hw hm ?_ ?_
     ·refine Cv.genAt [86,3] [] (Cv.fold ([10]++(List.range' 87 11)) 2 [] (by exact Nat.le_refl _) (by exact Nat.le_of_ble_eq_true rfl) (by rfl) (by cbv) ?_)
      intro js6;exact⟨(0,0,w),⟨rfl,Nat.zero_le _,hv0.symm⟩,js6,rfl⟩
     ·rintro⟨j,i,y⟩ js6 ⟨hi,hj,hy⟩;by_cases hlt:j<q'
      ·have hl1:vc .lss i qi'=true:=by rw[qc,ko];omega
       have hop:o'=p:=h2.resolve_left (by omega);have hti:vtoN i=j:=by rw[hi];simp only[qtoN,Int.toNat_natCast]
       have hin:0≤i∧i<(q':Int):=by omega
       refine Exists.elim (k9 (o'+j)) (fun m hm'=>?_)
       have eadd:vaddN o' j=m:=by rw[qaddN];exact hm'.symm
       have hml:m<vln r:=by rw[hlnr];omega
       refine Exists.elim (kX ((j+1:Nat):Int)) (fun i1 hi1=>?_)
       have ei:vb .add .i64 i 1=i1:=by rw[qb,hi1,hi];rw[ku (by omega) (by omega)];push_cast;rfl
       refine Exists.elim (kX (vb .xor .u64 y (vb .mul .u64 (vw .u64 (vgd r m)) 2870177450012600261))) (fun e he=>?_)
       have ht:=htrn e 11 (by decide);refine Exists.elim (kX (trn e 11)) (fun t ht'=>?_)
       rw[←ht'] at ht;refine Exists.elim (kX (vb .mul .u64 t 11400714785074694791)) (fun y2 hy2=>?_)
       have hF:y2=V (j+1):=by rw[hv1 j,←hy,hy2,ht',he,hm',hop,qb,qw,qgd]
       have hmu:q'-(j+1)<q'-j:=by omega
       cbv;rw[hl1];cbv;rw[hti,eadd];refine⟨⟨hin⟩,⟨hml⟩,⟨hml⟩,?_⟩
       rw[←he];refine ka (ρ:=[]) ht ⟨by rfl,by rfl,by rfl,by cbv⟩ ?_
       rintro v H R js3 ⟨rfl,rfl,rfl⟩;cbv;rw[←hy2,ei];refine Cv.fold ([10]++(List.range' 87 11)) 2 [] (by exact Nat.le_refl _) (by exact Nat.le_of_ble_eq_true rfl) (by rfl) (by cbv) ?_
       intro js7;refine⟨(j+1,i1,y2),⟨⟨hi1,hlt,hF⟩,hmu⟩,js7,rfl⟩
      ·have hl1:vc .lss i qi'=false:=by rw[qc,km];omega
       have hjq:j=q':=by omega
       cbv;rw[hl1];cbv;rw[hy,hjq,←h5];exact⟨rfl,trivial⟩
def kdZ (b:List Int):Int:=kjR b.length (lnX b (b.length / 32)).1 (lnX b (b.length / 32)).2.1 (lnX b (b.length / 32)).2.2.1 (lnX b (b.length / 32)).2.2.2 (b.drop (32*(b.length / 32)))
theorem knY : MethIs Try.prog "baler/sums.add" 232 162 := MethIs.of (fun v w => by kernel_rfl) fn162.go
theorem kjS : MethIs Try.prog "baler/sums.value" 232 163 := MethIs.of (fun v w => by kernel_rfl) fn163.go
theorem knZ (b:List Int) (c0:Nat) (hl:b.length≤140737488355328) :
  Con Try.prog 126 [.ptr 1 .z 1 0,.slice 2 .z 1 b.length c0] [.one 241 [.int .u64 xA0,.int .u64 14029467366897019727,.int .u64 0,.int .u64 xD0,.val (.slice none 0 0),.int .u64 0],.one 231 [.iface 232 (.ptr 0 .z 6 0)],.ro .u8 b]
   (fun v H R=>v=.tup []∧R=[]∧∃(A B C D:Int) (k r c c':Nat) (n:Int),lnX b (b.length / 32)=(A,B,C,D)∧k=32*(b.length / 32)∧r=b.length-k∧n=b.length∧r≤c ∧
    H=[.one 241 [.int .u64 A,.int .u64 B,.int .u64 C,.int .u64 D,.slice 3 .z 1 r c,.int .u64 n],.one 231 [.iface 232 (.ptr 0 .z 6 0)],.ro .u8 b,.buf 5 .u8 (b.drop k) c']):=by
 have h:=kpr b c0 hl;have hmt:=knY;obtain⟨A0,hA⟩:∃x,x=xA0:=⟨_,rfl⟩;obtain⟨D0,hD⟩:∃x,x=xD0:=⟨_,rfl⟩;rw[←hA,←hD] at h ⊢
 obtain⟨L,hL⟩:∃L,L=b.length:=⟨_,rfl⟩;rw[←hL] at h ⊢
 obtain⟨X,hX⟩:∃X,X=lnX b (L / 32):=⟨_,rfl⟩;rw[←hX] at h ⊢
 obtain⟨K,hK⟩:∃K,K=32*(L / 32):=⟨_,rfl⟩;rw[←hK] at h ⊢
 refine kf (kg (kc kj krd ?_))
 intro _ _ _ _ _ _ _ _ _ _ _ _ _ _ _ _ _ _ _ _ _ _ _ _ _ _ _ _ _ _ _ _ _ _ _ _ _ _ _ _ _ _ _;have hm:=kj;generalize Try.prog=P at *;cbv;refine⟨162,hmt,ka (ρ:=[(0,.z),(2,.z)]) h ⟨by rfl,by rfl,by rfl,by cbv;(repeat' first|(refine And.intro ?_ ?_)|exact trivial|exact⟨Nat.le_refl _⟩|exact kb _|exact fun _=>rfl|(simp only[renL3];done)|(show SB.roA _ _ _=SB.roA _ _ _;rfl)|exact funext fun _=>rfl)⟩ ?_⟩
 rintro v H R js ⟨rfl,rfl,A,B,C,D,k,r,c,c',n,h1,h2,h3,h4,h5,rfl⟩;obtain⟨bd,hbd⟩:∃x,x=b.drop k:=⟨_,rfl⟩;rw[←hbd];cbv;exact⟨A,B,C,D,k,r,c,c',n,h1,h2,h3,h4,h5,by rw[hbd];rfl⟩
theorem kn0 (r:List Int) (c c':Nat) (n A B C D:Int) (hl:r.length≤40) (hc:r.length≤c) :
  Con Try.prog 127 [.ptr 1 .z 1 0] [.one 241 [.int .u64 A,.int .u64 B,.int .u64 C,.int .u64 D,.slice 2 .z 1 r.length c,.int .u64 n],.one 231 [.iface 232 (.ptr 0 .z 6 0)],.buf 5 .u8 r c']
   (fun v H R=>v=.int .u64 (kjR n A B C D r)∧R=[]∧H=[.one 241 [.int .u64 A,.int .u64 B,.int .u64 C,.int .u64 D,.slice 2 .z 1 r.length c,.int .u64 n],.one 231 [.iface 232 (.ptr 0 .z 6 0)],.buf 5 .u8 r c']):=by
 have h:=kmc r c c' n A B C D hl hc;have hmt:=kjS;obtain⟨L,hL⟩:∃L,L=r.length:=⟨_,rfl⟩;rw[←hL] at h ⊢
 obtain⟨V,hV⟩:∃x,x=kjR n A B C D r:=⟨_,rfl⟩;rw[←hV] at h ⊢
 refine kf (kg (kc kj kre ?_))
 intro _ _ _ _ _ _ _ _ _ _ _ _ _ _ _ _ _ _ _ _ _ _ _ _ _ _ _ _ _ _ _ _ _ _ _ _ _ _ _ _ _ _ _;have hm:=kj;generalize Try.prog=P at *;cbv;refine⟨163,hmt,ka (ρ:=[(0,.z),(2,.z)]) h ⟨by rfl,by rfl,by rfl,by cbv;(repeat' first|(refine And.intro ?_ ?_)|exact trivial|exact⟨Nat.le_refl _⟩|exact kb _|exact fun _=>rfl|(simp only[renL3];done)|(show SB.roA _ _ _=SB.roA _ _ _;rfl)|exact funext fun _=>rfl)⟩ ?_⟩
 rintro v H R js ⟨rfl,rfl,rfl⟩;cbv
theorem kpu (b:List Int) (c0:Nat) (hl:b.length≤140737488355328):Con Try.prog 104 [.lit .i64 3,.slice 0 .z 1 b.length c0] [.ro .u8 b] (fun v H R=>v=.int .u64 (kdZ b)∧H=[.ro .u8 b]∧R=[]):=by
 have h1:=knX;have h2:=knZ b c0 hl;have h3:=fun c c' n A B C D=>kn0 (b.drop (32*(b.length / 32))) c c' n A B C D (by rw[List.length_drop];omega)
 obtain⟨L,hL⟩:∃L,L=b.length:=⟨_,rfl⟩;rw[List.length_drop,←hL] at h3;have hx:kdZ b=kjR L (lnX b (L / 32)).1 (lnX b (L / 32)).2.1 (lnX b (L / 32)).2.2.1 (lnX b (L / 32)).2.2.2 (b.drop (32*(L / 32))):=by rw[hL];rfl
 rw[←hL] at h2 ⊢
 obtain⟨V,hV⟩:∃x,x=kdZ b:=⟨_,rfl⟩;rw[←hV] at hx ⊢
 obtain⟨X,hX⟩:∃X,X=lnX b (L / 32):=⟨_,rfl⟩;rw[←hX] at h2 hx;obtain⟨K,hK⟩:∃K,K=32*(L / 32):=⟨_,rfl⟩;rw[←hK] at h2 h3 hx;obtain⟨A0,hA⟩:∃x,x=xA0:=⟨_,rfl⟩;obtain⟨D0,hD⟩:∃x,x=xD0:=⟨_,rfl⟩;rw[←hA,←hD] at h1 h2;obtain⟨bd,hbd⟩:∃x,x=b.drop K:=⟨_,rfl⟩;rw[←hbd] at h3 hx;obtain⟨RL,hRL⟩:∃x,x=L-K:=⟨_,rfl⟩;rw[←hRL] at h3;refine kf (kw 1 (by simp) (kg (kc kj kq6 ?_)))
 intro _ _ _ _ _ _ _ _ _ _ _ _ _ _ _ _ _ _ _ _ _ _ _ _ _ _ _ _ _ _ _ _ _ _ _ _ _ _ _ _ _ _ _;have hm:=kj;generalize Try.prog=P at *;cbv;refine ka (ρ:=[]) h1 ⟨by rfl,by rfl,by rfl,by cbv;(repeat' first|(refine And.intro ?_ ?_)|exact trivial|exact⟨Nat.le_refl _⟩|exact kb _|exact fun _=>rfl|(simp only[renL3];done)|(show SB.roA _ _ _=SB.roA _ _ _;rfl)|exact funext fun _=>rfl)⟩ ?_
 rintro v H R js ⟨rfl,rfl,rfl⟩;cbv;refine ka (ρ:=[(1,.z),(2,.z),(0,.z)]) h2 ⟨by rfl,by rfl,by rfl,by cbv;(repeat' first|(refine And.intro ?_ ?_)|exact trivial|exact⟨Nat.le_refl _⟩|exact kb _|exact fun _=>rfl|(simp only[renL3];done)|(show SB.roA _ _ _=SB.roA _ _ _;rfl)|exact funext fun _=>rfl)⟩ ?_
 rintro v H R js ⟨rfl,rfl,A,B,C,D,k,r,c,c',n,e1,e2,e3,e4,e5,rfl⟩;subst e2;rw[←hRL] at e3;subst e3;have hfin:kjR n A B C D bd=V:=by rw[hx,e1,e4]
 rw[←hbd];have h3:=h3 c c' n A B C D e5;rw[hfin] at h3;cbv;refine ka (ρ:=[(1,.z),(2,.z),(3,.z)]) h3 ⟨by rfl,by rfl,by rfl,by cbv;(repeat' first|(refine And.intro ?_ ?_)|exact trivial|exact⟨Nat.le_refl _⟩|exact kb _|exact fun _=>rfl|(simp only[renL3];done)|(show SB.roA _ _ _=SB.roA _ _ _;rfl)|exact funext fun _=>rfl)⟩ ?_
 rintro v H R js ⟨rfl,rfl,rfl⟩;cbv
theorem kpv (b:List Int) (c0:Nat) (hl:b.length≤140737488355328):Con Try.prog 76 [.slice 0 .z 1 b.length c0] [.ro .u8 b] (fun v H R=>v=.int .u64 (kdZ b)∧H=[.ro .u8 b]∧R=[]):=by
 have h:=kpu b c0 hl;obtain⟨V,hV⟩:∃x,x=kdZ b:=⟨_,rfl⟩;rw[←hV] at h ⊢
 obtain⟨L,hL⟩:∃L,L=b.length:=⟨_,rfl⟩;rw[←hL] at h ⊢
 refine kf (kw 1 (by simp) (kg (kc kj ksd ?_)))
 intro _ _ _ _ _ _ _ _ _ _ _ _ _ _ _ _ _ _ _ _ _ _ _ _ _ _ _ _ _ _ _ _ _ _ _ _ _ _ _ _ _ _ _;have hm:=kj;generalize Try.prog=P at *;cbv;refine ka (ρ:=[(0,.z)]) h ⟨by rfl,by rfl,by rfl,by cbv;(repeat' first|(refine And.intro ?_ ?_)|exact trivial|exact⟨Nat.le_refl _⟩|exact kb _|exact fun _=>rfl|(simp only[renL3];done)|(show SB.roA _ _ _=SB.roA _ _ _;rfl)|exact funext fun _=>rfl)⟩ ?_
 rintro v H R js ⟨rfl,rfl,rfl⟩;cbv
set_option maxHeartbeats 40000000
theorem kmd (w out:List Int) (wl wc wc2 n0 n1 n2 k0 k1 k2 j0 j1 j2 ol oc oc2:Nat) (x0 y0 z0 x1 y1 z1 x2 y2 z2:Nat→Int) (a b c win most siz skip gone:Int) (told sm:Bool) (g k o:Nat) (oli:Int) (hg:gone=g) (hgo:g≤ol) (hoc:ol≤oc) (hoi:oli=ol) (hk:k=ol-g) (ho:o=if ol=g then 0 else 0+g) :
  Con Try.prog 74 [.ptr 0 .z 15 0] [.one 107 [.slice 1 .z 1 wl wc,.slice 2 .z 3 n0 k0,.slice 3 .z 3 n1 k1,.slice 4 .z 3 n2 k2,.int .i64 a,.int .i64 b,.int .i64 c,.int .u64 win,.int .i64 most,.int .u64 siz,.bool told,.bool sm,.int .u64 skip,.slice 5 .z 1 ol oc,.int .i64 gone],.buf 5 .u8 w wc2,.bufA 79 3 n0 (fun m=>[.int .u8 (x0 m),.int .u8 (y0 m),.int .u16 (z0 m)]) j0,.bufA 79 3 n1 (fun m=>[.int .u8 (x1 m),.int .u8 (y1 m),.int .u16 (z1 m)]) j1,.bufA 79 3 n2 (fun m=>[.int .u8 (x2 m),.int .u8 (y2 m),.int .u16 (z2 m)]) j2,.buf 5 .u8 out oc2] (fun v H R=>v=.slice 5 (.n o) 1 k k∧R=[]∧H=[.one 107 [.slice 1 .z 1 wl wc,.slice 2 .z 3 n0 k0,.slice 3 .z 3 n1 k1,.slice 4 .z 3 n2 k2,.int .i64 a,.int .i64 b,.int .i64 c,.int .u64 win,.int .i64 most,.int .u64 siz,.bool told,.bool sm,.int .u64 skip,.slice 5 .z 1 ol oc,.int .i64 oli],.buf 5 .u8 w wc2,.bufA 79 3 n0 (fun m=>[.int .u8 (x0 m),.int .u8 (y0 m),.int .u16 (z0 m)]) j0,.bufA 79 3 n1 (fun m=>[.int .u8 (x1 m),.int .u8 (y1 m),.int .u16 (z1 m)]) j1,.bufA 79 3 n2 (fun m=>[.int .u8 (x2 m),.int .u8 (y2 m),.int .u16 (z2 m)]) j2,.buf 5 .u8 out oc2]):=by
 refine kf (kw 6 (by simp) (kg (kc kj ksb ?_)))
 intro _ _ _ vtoN vofN _ vsubN _ _ vcutN _ _ _ _ _ _ _ _ _ _ _ _ _ _ _ qtoN qofN _ qsubN _ _ qcutN _ _ _ _ _ _ _ _ _ _ _;have hm:=kj;generalize Try.prog=P at *;have e1:vofN ol=oli:=by rw[qofN];exact hoi.symm
 have t1:vtoN oli=ol:=by rw[hoi];simp only[qtoN,Int.toNat_natCast]
 have t2:vtoN gone=g:=by rw[hg];simp only[qtoN,Int.toNat_natCast]
 have i1:0≤oli∧oli≤(oc:Int):=by omega
 have i2:0≤oli∧oli≤(ol:Int):=by omega
 have i3:0≤gone∧gone≤(ol:Int):=by omega
 have c1:vcutN 0 g ol=o:=by rw[qcutN];exact ho.symm
 have s1:vsubN ol g=k:=by simp only[qsubN];exact hk.symm
 cbv;rw[e1,t1,t2,c1,s1];exact⟨⟨i1⟩,⟨i2⟩,⟨i3⟩,rfl,rfl⟩
theorem kn3 (m s:List Int) (ml mc mc2 k sc o:Nat) (hml:ml=m.length) (hmc:ml≤mc) (hmc2:mc≤mc2) (hok:o+k≤s.length) (hs:k≤100000000) (hm0:ml≤100000000) :
  Con Try.prog 40 [.slice 2 (.n o) 1 k sc,.ptr 0 .z 1 0] [.one 25 [.slice 1 .z 1 ml mc],.buf 5 .u8 m mc2,.ro .u8 s]
   (fun v H R=>v=.bool true∧R=[1]∧∃(n c c2:Nat),n=ml+k∧n≤c∧c≤c2∧H=[.one 25 [.slice 1 .z 1 n c],.buf 5 .u8 (m++(s.drop o).take k) c2,.ro .u8 s]):=by
 refine kf (kw 3 (by simp) (kg (kc kj krW ?_)))
 intro _ _ _ _ _ vaddN _ _ _ _ _ _ vln _ vsub vonto _ _ _ _ _ _ _ _ _ _ _ qaddN _ _ _ _ _ _ qln _ qsub qonto _ _ _ _ _;have hm:=kj;generalize Try.prog=P at *;obtain⟨n,hn⟩:∃n,n=ml+k:=⟨_,rfl⟩;obtain⟨S,hS⟩:∃l,l=(s.drop o).take k:=⟨_,rfl⟩;have e1:vaddN ml k=n:=by rw[qaddN];exact hn.symm
 have e2:vsub s o k=S:=by rw[qsub];exact hS.symm
 have e3:vonto m ml S=m++S:=by rw[qonto,hml];exact congrArg (·++S) List.take_length
 have f1:vaddN o k≤vln s:=by simp only[qaddN,qln];exact hok
 have f2:ml≤vln m:=by simp only[qln];omega
 have f3:n*1≤140737488355328:=by omega
 obtain⟨M,hM⟩:∃l,l=m++S:=⟨_,rfl⟩;rw[←hM] at e3;cbv;rw[e1,e2];refine⟨⟨f1⟩,⟨f2⟩,⟨hmc2⟩,⟨f3⟩,?_⟩
 intro c2 js hc;have hc:Le n c2:=by rw[←e1];exact hc
 cbv;rw[e3,e1];exact⟨n,c2,c2,hn,hc.out,Nat.le_refl _,by rw[←hS,←hM];rfl⟩
theorem kn4 (k:IntKind) (n:Int):Con Try.prog 41 [.int k n] [] (fun v H R=>v=.tup []∧H=[]∧R=[]):=by
 refine kf (kg (kc kj fn41 ?_))
 intro _ _ _ _ _ _ _ _ _ _ _ _ _ _ _ _ _ _ _ _ _ _ _ _ _ _ _ _ _ _ _ _ _ _ _ _ _ _ _ _ _ _ _;have hm:=kj;generalize Try.prog=P at *;cbv
theorem kgL (b:List Int) (n cap:Nat):Con Try.prog 38 [.slice 0 .z 1 n cap] [.ro .u8 b] (fun v H R=>v=.ptr 1 .z 3 0∧H=[.ro .u8 b,.one 146 [.slice 0 .z 1 n cap,.int .i64 0,.val .nilFunc]]∧R=[]):=by
 refine kf (kg (kc kj krV ?_))
 intro _ _ _ _ _ _ _ _ _ _ _ _ _ _ _ _ _ _ _ _ _ _ _ _ _ _ _ _ _ _ _ _ _ _ _ _ _ _ _ _ _ _ _;have hm:=kj;generalize Try.prog=P at *;cbv
end Go.Proofs.Ytlclleihoampdaa
