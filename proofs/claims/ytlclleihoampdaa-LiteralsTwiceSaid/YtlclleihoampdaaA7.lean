import Derived.Test.YtlclleihoampdaaA6
import Derived.Test.YtlclleihoampdaaA1
import Derived.Test.YtlclleihoampdaaEX
import Derived.Test.YtlclleihoampdaaED
import Derived.Test.YtlclleihoampdaaA4
set_option linter.unusedVariables false
set_option linter.unusedSimpArgs false
namespace Go.Proofs.Ytlclleihoampdaa
open Go Go.Sx Go.Proofs
theorem kne {x:Int} (h0:0≤x) (h1:x<4294967296):IntKind.u32.wrap x=x:=by
 simp[IntKind.wrap,IntKind.bits,IntKind.signed];omega
set_option maxRecDepth 100000 in
set_option maxHeartbeats 8000000 in
theorem knf (l:List Int) (cap:Nat) (hb:∀c∈l,isByte c) (hl:l.length≤131072) :
  Con Try.prog 54 [.slice 0 .z 1 l.length cap] [.ro .u8 l] (fun v H R=>R=[] ∧
   ((v=.val (.slice none 0 0)∧H=[.ro .u8 l])∨∃o:List Int,v=.slice 1 .z 1 o.length o.length∧H=[.ro .u8 l,.ints 5 .u8 o]∧1≤o.length∧o.length≤256∧∀c∈o,0≤c∧c≤12)):=by
 have hlim:=fun(cs:List Int) (h1:∀c∈cs,0≤c∧c<4294967296) (h2:cs.length≤1048576)=>knb (fun v H R=>R=[]∧((v=.tup [.val (.slice none 0 0),.int .i64 2]∧H=[.ro .u32 cs])∨∃o,krU cs 11 o∧v=.tup [.slice 1 .z 1 cs.length cs.length,.int .i64 0]∧H=[.ro .u32 cs,.ints 5 .u8 o])) cs 11 256 h1 h2 (by omega) (fun _=>⟨rfl,.inl ⟨rfl,rfl⟩⟩) (fun ha o ho=>⟨rfl,.inr ⟨o,ho.facts ha,rfl,rfl⟩⟩)
 refine kj (kG (km (kg kr kr6 ?_)))
 intro vb vc vw vtoN vofN vaddN _ vmaxI _ _ vgd vst vln vrep _ _ _ _ _ _ _ hw qb qc qw qtoN qofN qaddN _ qmaxI _ _ qgd qst qln qrep _ _ _ _ _ _ _;have hm:=kr;generalize Try.prog=P at *;have hby:∀i,i<l.length→0≤l.getD i 0∧l.getD i 0≤255:=fun i hi=>by
  rw[List.getD_eq_getElem?_getD,List.getElem?_eq_getElem hi];have:=hb _ (List.getElem_mem hi);unfold isByte at this;simp only[Option.getD_some];omega
 have hgd:∀i,vgd l i=l.getD i 0:=fun i=>by simp only[qgd]
 generalize hL:l.length=n at *;have hln:vln l=n:=by rw[qln];exact hL
 have hto:∀i:Nat,vtoN (i:Int)=i:=fun i=>by simp only[qtoN,Int.toNat_natCast]
 have hadd0:∀i,vaddN 0 i=i:=fun i=>by simp only[qaddN,Nat.zero_add]
 obtain⟨nI,hnI⟩:∃nI:Int,nI=n:=⟨_,rfl⟩;have en:vofN n=nI:=by rw[qofN,hnI]
 obtain⟨zs,hzs⟩:∃zs,zs=vrep 256 0:=⟨_,rfl⟩;cbv;rw[en,←hzs];have hz0:zs.length=256∧∀j:Nat,0≤zs.getD j 0∧zs.getD j 0≤0:=by
  rw[hzs,qrep];refine⟨List.length_replicate,fun j=>?_⟩
  simp only[List.getD_eq_getElem?_getD,List.getElem?_replicate];split<;>simp
 refine kl (α:=Int×Int×List Int) ([6]++(List.range' 17 13)) [1] (fun(k,la,cs)=>[(16,.int .i64 k),(4,.int .i64 la)]) (fun(k,la,cs)=>[(1,.ints 167 .u32 cs)])
  (fun(k,la,cs)=>∃i a:Nat,k=i∧i≤n∧la=a∧a≤255∧cs.length=256∧∀j:Nat,0≤cs.getD j 0∧cs.getD j 0≤i) (fun(k,_)=>n-k.toNat) hw hm ?_ ?_
 ·refine Cv.genAt [16,4] [] (Cv.fold ([6]++(List.range' 17 13)) 2 [1] (by exact Nat.le_refl _) (by exact Nat.le_of_ble_eq_true rfl) (by rfl) (by cbv) ?_)
  intro js;refine⟨(_,_,_),?_,js,rfl⟩
  exact⟨0,0,rfl,by omega,rfl,by omega,hz0.1,hz0.2⟩
 ·rintro ⟨k,la,cs⟩ js ⟨i,a,hk,hi,ha,ha2,hcl,hcs⟩;cbv;generalize hz:vc .lss k nI=z;cases z
  rotate_left
  ·rw[qc,kf] at hz;have hlt:i<n:=by((try simp only[nc] at *);omega)
   have hti:vtoN k=i:=by rw[hk];exact hto i
   have hinR:0≤k∧k<(n:Int):=by((try simp only[nc] at *);omega)
   obtain⟨k1,hk1⟩:∃k1:Int,k1=((i+1:Nat):Int):=⟨_,rfl⟩;have ek:vb .add .i64 k 1=k1:=by(try simp only[nc] at *);rw[qb,kh (by omega) (by omega)];omega
   have hmu:∀_:Unit,n-k1.toNat<n-k.toNat:=fun _=>by((try simp only[nc] at *);omega)
   have hx:=hby i hlt;generalize hxx:l.getD i 0=x at *;cbv;rw[hti,hgd,hxx];obtain⟨xn,hxn⟩:∃xn:Nat,x=xn:=⟨x.toNat,by omega⟩;have htx:vtoN x=xn:=by rw[hxn];exact hto xn
   have hlc:vln cs=256:=by rw[qln];exact hcl
   have hcx:=hcs xn;obtain⟨y,hy⟩:∃y,y=cs.getD xn 0+1:=⟨_,rfl⟩;have ey:vb .add .u32 (vgd cs xn) 1=y:=by
    (try simp only[nc] at *)
    rw[qb,qgd,hy];exact kne (by show(0:Int)≤cs.getD xn 0+1;omega) (by show cs.getD xn 0+1<(4294967296:Int);omega)
   obtain⟨m,hm2⟩:∃m:Nat,m=max a xn:=⟨_,rfl⟩;obtain⟨mI,hmI⟩:∃mI:Int,mI=m:=⟨_,rfl⟩;have em:vmaxI la (vw .i64 x)=mI:=by
    (try simp only[nc] at *)
    rw[qmaxI,qw];simp only[];rw[wrap_i64 (by omega) (by omega)];split<;>omega
   obtain⟨cs2,hcs2⟩:∃cs2,cs2=vst cs xn y:=⟨_,rfl⟩;have hc2:cs2.length=256∧∀j:Nat,0≤cs2.getD j 0∧cs2.getD j 0≤((i+1:Nat):Int):=by
    rw[hcs2,qst];refine⟨by rw[List.length_set];exact hcl,fun j=>?_⟩
    simp only[List.getD_eq_getElem?_getD,List.getElem?_set];have hj:=hcs j;rw[List.getD_eq_getElem?_getD] at hj;split
    ·split
     ·simp only[Option.getD_some];((try simp only[nc] at *);omega)
     ·simp only[Option.getD_none];((try simp only[nc] at *);omega)
    ·((try simp only[nc] at *);omega)
   rw[htx,ey,em,ek,←hcs2];refine⟨⟨hinR⟩,⟨by rw[hadd0,hln];exact hlt⟩,⟨by rw[hln];exact hlt⟩,⟨by omega,by omega⟩,⟨by rw[hlc];omega⟩,⟨by omega,by omega⟩,⟨by rw[hlc];omega⟩,?_⟩
   refine Cv.fold ([6]++(List.range' 17 13)) 2 [1] (by exact Nat.le_refl _) (by exact Nat.le_of_ble_eq_true rfl) (by rfl) (by cbv) ?_
   intro js;refine⟨(_,_,_),?_,js,rfl⟩
   exact⟨⟨i+1,m,hk1,hlt,hmI,by omega,hc2.1,hc2.2⟩,hmu ()⟩
  ·rw [qc,ke] at hz
   cbv;obtain⟨A1,hA1⟩:∃A1:Nat,A1=a+1:=⟨_,rfl⟩;obtain⟨AI,hAI⟩:∃AI:Int,AI=A1:=⟨_,rfl⟩;have e1:vb .add .i64 la 1=AI:=by(try simp only[nc] at *);rw[qb,kh (by omega) (by omega)];omega
   have htA:vtoN AI=A1:=by rw[hAI];exact hto A1
   have hA256:A1≤256:=by omega
   have hAc:0≤AI∧AI≤256:=by((try simp only[nc] at *);omega)
   obtain⟨ct,hct⟩:∃ct,ct=cs.take A1:=⟨_,rfl⟩;have hcl2:ct.length=A1:=by rw[hct,List.length_take];omega
   have hcr:∀c∈ct,0≤c∧c<4294967296:=by
    intro c hc;rw[hct] at hc;have hc:=List.mem_of_mem_take hc;obtain⟨j,hj,rfl⟩:=List.getElem_of_mem hc;have:=hcs j;rw[List.getD_eq_getElem?_getD,List.getElem?_eq_getElem hj,Option.getD_some] at this
    ((try simp only[nc] at *);omega)
   have hlm:=hlim ct hcr (by omega);rw[hcl2] at hlm;have hview:kdP 0 ct cs:=⟨⟨by omega,fun i hi=>by
    rw[hcl2] at hi;rw[Nat.zero_add,hct,List.getD_eq_getElem?_getD,List.getD_eq_getElem?_getD,List.getElem?_take,if_pos hi]⟩⟩
   rw[e1,htA];refine⟨⟨hAc.1,hAc.2⟩,?_⟩
   refine ka (ρ:=[(1,.z)]) hlm ⟨by rfl,by rfl,by rfl,by cbv;exact⟨hview,trivial⟩⟩ ?_
   rintro v H R js2 ⟨rfl,⟨rfl,rfl⟩|⟨o,ho,rfl,rfl⟩⟩
   ·cbv;rw[show vc .neq 2 0=true by rw[qc];rfl];cbv;exact⟨[0],.val (.slice none 0 0),[.ro .u8 l],rfl,rfl,rfl,rfl,⟨rfl,trivial⟩,rfl,.inl ⟨rfl,rfl⟩⟩
   ·have hol:o.length=A1:=by rw[ho.len,hcl2]
    have hor:∀j:Nat,0≤o.getD j 0∧o.getD j 0≤11:=fun j=>by
     by_cases h:j<ct.length
     ·exact ho.le j h
     ·rw[List.getD_eq_getElem?_getD,List.getElem?_eq_none (by rw[ho.len];omega)];simp
    have hgo:∀(o:List Int) i,vgd o i=o.getD i 0:=fun o i=>by simp only[qgd]
    have eA:vofN A1=AI:=by rw[qofN,hAI]
    clear ho hlm hlim;cbv;rw[show vc .neq 0 0=false by rw[qc];rfl];cbv;rw[eA];refine kl (α:=Int×Int) ([11]++(List.range' 42 7)) [1] (fun(k,mo)=>[(41,.int .i64 k),(9,.int .u8 mo)]) (fun _=>[])
     (fun(k,mo)=>∃i:Nat,k=i∧i≤A1∧0≤mo∧mo≤11∧∀j:Nat,j<i→o.getD j 0≤mo) (fun(k,_)=>A1-k.toNat) hw hm ?_ ?_
    ·refine Cv.genAt [41,9] [] (Cv.fold ([11]++(List.range' 42 7)) 3 [1] (by exact Nat.le_refl _) (by exact Nat.le_of_ble_eq_true rfl) (by rfl) (by cbv) ?_)
     intro js;refine⟨(_,_),?_,js,rfl⟩
     exact⟨0,rfl,by omega,by decide,by decide,fun j hj=>absurd hj (by omega)⟩
    ·rintro⟨k,mo⟩ js ⟨i,hk,hi,hm0,hm1,hmx⟩;cbv;generalize hz:vc .lss k AI=z;cases z
     rotate_left
     ·rw[qc,kf] at hz;have hlt:i<A1:=by((try simp only[nc] at *);omega)
      have hti:vtoN k=i:=by rw[hk];exact hto i
      have hinR:0≤k∧k<(A1:Int):=by((try simp only[nc] at *);omega)
      obtain⟨k1,hk1⟩:∃k1:Int,k1=((i+1:Nat):Int):=⟨_,rfl⟩;have ek:vb .add .i64 k 1=k1:=by(try simp only[nc] at *);rw[qb,kh (by omega) (by omega)];omega
      have hmu:∀_:Unit,A1-k1.toNat<A1-k.toNat:=fun _=>by((try simp only[nc] at *);omega)
      have hlo:vln o=A1:=by rw[qln];exact hol
      have hoi:=hor i;have hgi:=hgo o i;obtain⟨mo2,hmo2⟩:∃m2,m2=vmaxI mo (o.getD i 0):=⟨_,rfl⟩;have hb2:0≤mo2∧mo2≤11∧mo≤mo2∧o.getD i 0≤mo2:=by rw[hmo2,qmaxI];simp only[];split<;>omega
      cbv;rw[hti,hgi,ek,←hmo2];refine⟨⟨hinR⟩,⟨by rw[hlo];exact hlt⟩,?_⟩
      refine Cv.fold ([11]++(List.range' 42 7)) 3 [1] (by exact Nat.le_refl _) (by exact Nat.le_of_ble_eq_true rfl) (by rfl) (by cbv) ?_
      intro js;refine⟨(_,_),?_,js,rfl⟩
      refine⟨⟨i+1,hk1,hlt,hb2.1,hb2.2.1,fun j hj=>?_⟩,hmu ()⟩
      by_cases he:j=i
      ·subst he;exact hb2.2.2.2
      ·exact Int.le_trans (hmx j (by omega)) hb2.2.2.1
     ·rw [qc,ke] at hz
      have hin:i=A1:=by((try simp only[nc] at *);omega)
      subst hin;have hmA:∀j:Nat,o.getD j 0≤mo:=fun j=>by
       by_cases h:j<i
       ·exact hmx j h
       ·rw[List.getD_eq_getElem?_getD,List.getElem?_eq_none (by omega)];exact hm0
      generalize hA:i=A1 at *;cbv;rw[eA];refine kl (α:=Int×List Int) ([12,13]++(List.range' 52 14)) [1,2] (fun(k,q)=>[(51,.int .i64 k)]) (fun(k,q)=>[(2,.ints 5 .u8 q)])
       (fun(k,q)=>∃i:Nat,k=i∧i≤A1∧q.length=A1∧(∀j:Nat,0≤q.getD j 0∧q.getD j 0≤12)∧∀j:Nat,i≤j→q.getD j 0≤mo) (fun(k,_)=>A1-k.toNat) hw hm ?_ ?_
      ·refine Cv.genAt [51] [] (Cv.fold ([12,13]++(List.range' 52 14)) 3 [1,2] (by exact Nat.le_refl _) (by exact Nat.le_of_ble_eq_true rfl) (by rfl) (by cbv) ?_)
       intro js;refine⟨(_,_),?_,js,rfl⟩
       exact⟨0,rfl,by omega,hol,fun j=>⟨(hor j).1,by have:=(hor j).2;omega⟩,fun j _=>hmA j⟩
      ·rintro⟨k,q⟩ js ⟨i,hk,hi,hq1,hq2,hq3⟩;cbv;generalize hz:vc .lss k AI=z;cases z
       rotate_left
       ·rw[qc,kf] at hz;have hlt:i<A1:=by((try simp only[nc] at *);omega)
        have hti:vtoN k=i:=by rw[hk];exact hto i
        have hinR:0≤k∧k<(A1:Int):=by((try simp only[nc] at *);omega)
        obtain⟨k1,hk1⟩:∃k1:Int,k1=((i+1:Nat):Int):=⟨_,rfl⟩;have ek:vb .add .i64 k 1=k1:=by(try simp only[nc] at *);rw[qb,kh (by omega) (by omega)];omega
        have hmu:A1-k1.toNat<A1-k.toNat:=by((try simp only[nc] at *);omega)
        have hlo:vln q=A1:=by rw[qln];exact hq1
        have hgi:=hgo q i;cbv;rw[hti,hgi];refine⟨⟨hinR⟩,⟨by rw[hlo];exact hlt⟩,?_⟩
        by_cases hp:0<q.getD i 0
        ·rw[show vc .gtr (q.getD i 0) 0=true by rw[qc,kz];exact hp];obtain⟨y,hy⟩:∃y,y=mo+1-q.getD i 0:=⟨_,rfl⟩;have hqi:=hq3 i (Nat.le_refl _);have hq2i:=hq2 i;have ey:vb .sub .u8 (vb .add .u8 mo 1) (q.getD i 0)=y:=by
          rw[qb,hy];show IntKind.u8.wrap (IntKind.u8.wrap (mo+1)-q.getD i 0)=_
          show(((mo+1) % 256)-q.getD i 0) % 256=_
          omega
         obtain⟨q2,hq22⟩:∃q2,q2=vst q i y:=⟨_,rfl⟩;have hset:∀j:Nat,q2.getD j 0=if j=i then y else q.getD j 0:=fun j=>by
          rw[hq22,qst];simp only[List.getD_eq_getElem?_getD,List.getElem?_set];by_cases h:i=j
          ·subst h;rw[if_pos rfl,if_pos (by omega),if_pos rfl];rfl
          ·rw[if_neg h,if_neg (fun e=>h e.symm)]
         have hl2:q2.length=A1:=by rw[hq22,qst];simp only[List.length_set];exact hq1
         generalize hgq:q.getD i 0=g at *;cbv;rw[hti,ey,ek,←hq22];refine⟨⟨hinR⟩,⟨by rw[hlo];exact hlt⟩,?_⟩
         refine Cv.fold ([12,13]++(List.range' 52 14)) 3 [1,2] (by exact Nat.le_refl _) (by exact Nat.le_of_ble_eq_true rfl) (by rfl) (by cbv) ?_
         intro js;refine⟨(_,_),?_,js,rfl⟩
         refine⟨⟨i+1,hk1,hlt,hl2,fun j=>?_,fun j hj=>?_⟩,hmu⟩
         ·rw[hset];split
          ·omega
          ·exact hq2 j
         ·rw[hset,if_neg (by omega)];exact hq3 j (by omega)
        ·rw[show vc .gtr (q.getD i 0) 0=false by rw[qc,ku];exact hp];cbv;rw[ek];refine Cv.fold ([12,13]++(List.range' 52 14)) 3 [1,2] (by exact Nat.le_refl _) (by exact Nat.le_of_ble_eq_true rfl) (by rfl) (by cbv) ?_
         intro js;refine⟨(_,_),?_,js,rfl⟩
         exact⟨⟨i+1,hk1,hlt,hq1,hq2,fun j hj=>hq3 j (by omega)⟩,hmu⟩
       ·cbv;exact⟨[0,2],.slice 1 .z 1 A1 A1,[.ro .u8 l,.ints 5 .u8 q],rfl,rfl,rfl,rfl,⟨rfl,rfl,trivial⟩,rfl,.inr ⟨q,by rw[hq1];rfl,rfl,by omega,by omega,fun c hc=>by
         obtain⟨j,hj,rfl⟩:=List.getElem_of_mem hc;have:=hq2 j;rw[List.getD_eq_getElem?_getD,List.getElem?_eq_getElem hj,Option.getD_some] at this;exact this⟩⟩
theorem koV (c:Int):∀l:List Int,(∀x∈l,0≤x∧x≤255)→0≤c∧c≤255→(kdG l c=l.length↔∀x∈l,x=c):=by
 intro l hl hc;unfold kdG;rw[Int.ofNat_inj,List.length_filter_eq_length_iff];refine forall_congr' fun x=>forall_congr' fun hx=>?_
 have hx:=hl x hx;obtain⟨a,rfl⟩:∃a:Nat,x=a:=⟨x.toNat,by omega⟩;obtain⟨b,rfl⟩:∃b:Nat,c=b:=⟨c.toNat,by omega⟩;simp only[Int.toNat_natCast,beq_iff_eq];constructor
 ·intro h;have:=congrArg UInt8.toNat h;simp at this
  omega
 ·intro h;have:a=b:=by omega
  rw[this]
theorem kpQ (c:Int) (l:List Int):0≤kdG l c∧kdG l c≤l.length:=by
 unfold kdG;have:=List.length_filter_le (fun x:Int=>x.toNat.toUInt8==c.toNat.toUInt8) l;omega
set_option maxRecDepth 100000 in
theorem kjK (l:List Int) (cap cap2:Nat) (h0:0<l.length) (hlen:l.length≤1048576) :
  Con Try.prog 52 [.slice 0 .z 1 l.length cap,.slice 0 .z 1 1 cap2] [.ro .u8 l] (fun v H R=>(∃r,v=.int .i64 r∧0≤r∧r≤l.length∧kpY l (l.getD 0 0) r)∧H=[.ro .u8 l]∧R=[]):=by
 refine kj (kA 1 (by simp) (jr [] (kg kr kr5 ?_)))
 intro _ vc _ _ vofN _ _ _ _ _ vgd _ vln _ vsub _ _ _ _ _ _ _ _ qc _ _ qofN qaddN _ _ _ _ qgd _ qln _ qsub _ _ _ _ _ _;have hm:=kr;generalize Try.prog=P at *;generalize hL:l.length=L at *;have hln:vln l=L:=by rw[qln];exact hL
 have h1:vc .eql (vofN 1) 0=false:=by rw[qc,qofN];rfl
 have h2:vc .eql (vofN 1) 1=true:=by rw[qc,qofN];rfl
 cbv;rw[h1];cbv;rw[h2];cbv;refine⟨⟨by decide,by decide⟩,⟨by rw[qaddN,hln];simp only[];omega⟩,⟨by rw[hln];exact h0⟩,⟨by rw[qaddN,hln];simp only[];omega⟩,fun r hr=>?_⟩
 cbv;obtain⟨hr⟩:=hr;change r=kdG (vsub l 0 L) (vgd l 0) at hr
 have hs:vsub l 0 L=l:=by rw[qsub,←hL];simp
 have hg:vgd l 0=l.getD 0 0:=by rw[qgd]
 rw[hs,hg] at hr;have hc:=kpQ (l.getD 0 0) l;rw[hL] at hc;exact⟨⟨r,rfl,by rw[hr];exact hc.1,by rw[hr];exact hc.2,⟨hr⟩⟩,trivial⟩
set_option maxRecDepth 10000
set_option maxHeartbeats 40000000
def PRd (b w:List Int) (cap2:Nat):koK→SV→List SB→Prop
 |.bad e,v,H=>v=.tup [.val (.slice none 0 0),.val (.slice none 0 0),.int .i64 0,.int .i64 e]∧H=[.ro .u8 b,.ro .u8 w]
 |.keep L u,v,H=>∃c,L.length≤c∧v=.tup [.slice 2 .z 1 L.length c,.slice 1 .z 1 w.length cap2,.int .i64 u,.int .i64 0]∧H=[.ro .u8 b,.ro .u8 w,.buf 5 .u8 L c]
 |.rep x n u,v,H=>∃L c,n≤c∧n≤L.length∧L.take n=List.replicate n x∧v=.tup [.slice 2 .z 1 n c,.slice 1 .z 1 w.length cap2,.int .i64 u,.int .i64 0]∧H=[.ro .u8 b,.ro .u8 w,.ints 5 .u8 L]
 |.own L l u,v,H=>∃c c3,L.length≤c∧v=.tup [.slice 2 .z 1 L.length c,.slice 3 .z 1 l.length c3,.int .i64 u,.int .i64 0]∧H=[.ro .u8 b,.ro .u8 w,.buf 5 .u8 L c,.buf 5 .u8 l c3]
def koW:List SV:=[.int .i64 1,.int .i64 5,.int .i64 0,.int .i64 2,.int .i64 12,.int .i64 0,.int .i64 1,.int .i64 5,.int .i64 0,.int .i64 3,.int .i64 20,.int .i64 0]
def kpR:List SV:=[.int .i64 3,.int .i64 10,.int .i64 1,.int .i64 3,.int .i64 10,.int .i64 4,.int .i64 4,.int .i64 14,.int .i64 4,.int .i64 5,.int .i64 18,.int .i64 4]
theorem kng {b:List Int} (hb:∀c∈b,kv c) (h:kdH b<2):takeA 3 (kcr 3 (fmH b).toNat koW)=[.int .i64 (usH b),.int .i64 (btH b),.int .i64 (rwH b)]:=by
 have hf:=kfH hb;rcases(show fmH b=0∨fmH b=1∨fmH b=2∨fmH b=3 by omega) with hf|hf|hf|hf <;>
 ·unfold usH btH rwH;simp only[if_pos h,hf];rfl
theorem kkO {b:List Int} (hb:∀c∈b,kv c) (h:¬kdH b<2):takeA 3 (kcr 3 (fmH b).toNat kpR)=[.int .i64 (usH b),.int .i64 (btH b),.int .i64 (rwH b)]:=by
 have hf:=kfH hb;rcases(show fmH b=0∨fmH b=1∨fmH b=2∨fmH b=3 by omega) with hf|hf|hf|hf <;>
 ·unfold usH btH rwH;simp only[if_neg h,hf];rfl
theorem kpS {b:List Int} (hb:∀c∈b,kv c):∃p q r:Int,takeA 3 (kcr 3 (fmH b).toNat koW)=[.int .i64 p,.int .i64 q,.int .i64 r]:=by
 have hf:=kfH hb;rcases(show fmH b=0∨fmH b=1∨fmH b=2∨fmH b=3 by omega) with hf|hf|hf|hf <;>
 ·rw[hf];exact⟨_,_,_,rfl⟩
theorem joinL {A B:Prop} (G:Prop) (h1:G→A) (h2:G→B) (h:G):A∧B:=⟨h1 h,h2 h⟩
theorem koX {b:List Int} (h:usH b=1):kdH b<2:=by
 unfold usH at h;split at h
 ·assumption
 ·split at h
  ·omega
  ·split at h<;>omega
theorem krV {b:List Int} (h:¬kdH b<2):pkH b=nmH b / 2^btH b:=by unfold pkH;rw[if_neg h]
-- READ

theorem kqZ (b w:List Int) (cap cap2:Nat) (most:Int) (hb:∀c∈b,kv c) (hw8:∀c∈w,kv c) (hbl:b.length≤140737488355328) (hwl:w.length≤140737488355328) (hcap:b.length≤cap) (hk:kdH b<2) (hb0:¬b.length=0) (hmo:¬(most<0∨131072<most)) :
  Con Try.prog 23 [.slice 0 .z 1 b.length cap,.slice 1 .z 1 w.length cap2,.int .i64 most] [.ro .u8 b,.ro .u8 w] (fun v H R=>R=[]∧PRd b w cap2 (RdL b w most) v H):=by
 obtain⟨f2,f10,f10a,f11,f10b,fB⟩:=qR b w most;have hk4:=kfH hb;have hsz0:=koL b;have hpk:=kg4 hb;have hus:=kku b;have hBH:bhH b=if kdH b=0 then szH b else if kdH b=1 then 1 else pkH b:=rfl
 obtain⟨X,hX⟩:∃X,X=RdL b w most:=⟨_,rfl⟩;have pbad:∀e,X=.bad e→PRd b w cap2 X (.tup [.val (.slice none 0 0),.val (.slice none 0 0),.int .i64 0,.int .i64 e]) [.ro .u8 b,.ro .u8 w]:=by
  intro e h;rw[h];exact⟨rfl,rfl⟩
 have pkeep:∀L u c,L.length≤c→X=.keep L u→PRd b w cap2 X (.tup [.slice 2 .z 1 L.length c,.slice 1 .z 1 w.length cap2,.int .i64 u,.int .i64 0]) [.ro .u8 b,.ro .u8 w,.buf 5 .u8 L c]:=by
  intro L u c h0 h;rw[h];exact⟨c,h0,rfl,rfl⟩
 have prep:∀x n u L c,n≤c→n≤L.length→L.take n=List.replicate n x→X=.rep x n u→PRd b w cap2 X (.tup [.slice 2 .z 1 n c,.slice 1 .z 1 w.length cap2,.int .i64 u,.int .i64 0]) [.ro .u8 b,.ro .u8 w,.ints 5 .u8 L]:=by
  intro x n u L c h0 h1 h2 h;rw[h];exact⟨L,c,h0,h1,h2,rfl,rfl⟩
 have pown:∀L l u c c3,L.length≤c→X=.own L l u→PRd b w cap2 X (.tup [.slice 2 .z 1 L.length c,.slice 3 .z 1 l.length c3,.int .i64 u,.int .i64 0]) [.ro .u8 b,.ro .u8 w,.buf 5 .u8 L c,.buf 5 .u8 l c3]:=by
  intro L l u c c3 h0 h;rw[h];exact⟨c,c3,h0,rfl,rfl⟩
 obtain⟨US,hUS⟩:∃US:Int,US=(usH b:Int):=⟨_,rfl⟩;obtain⟨bI,hbI⟩:∃bI:Int,bI=(b.length:Int):=⟨_,rfl⟩;rw[←hUS,←hbI] at f10a f11 f10b fB;rw[←hX] at f2 f10 f10a f11 f10b fB ⊢
 have hrowsA:=kjp;have hrdA:=klr;have hrepA:=kf5;have hseg:=fun o n h=>@qz b o n h
 have hvs:=fun o n x h hx=>@kdt b o n x h hx
 have hsm:=fun o n=>@kds b o n kv hb
 have hsegd:∀o n,seg b o n=(b.drop o).take n:=fun _ _=>rfl
 replace f10a:=fun(_:Unit)=>f10a hmo hb0
 replace f11:=fun(_:Unit)=>f11 hmo hb0
 replace f10b:=fun(_:Unit)=>f10b hmo hb0
 replace fB:=fun(_:Unit)=>fB hmo hb0
 clear f2 f10;have hplain:=kgY;have hpacked:=kf4;have hidx:=kng hb hk;have hx8:=jm hb 0;unfold kv at hx8;have hkd:∀_:Unit,kdH b=b.getD 0 0 % 4:=fun _=>rfl
 have hfd:∀_:Unit,fmH b=b.getD 0 0 / 4 % 4:=fun _=>rfl
 have hbt:=koM b;have hnr:=kgZ hb;have hAr:=jQ hb (usH b);have hnum:=fun c h=>keI b (usH b) c hb h (by omega)
 have hvt:=kg2 b (usH b);have hA40:j4 b (usH b)<2^40:=Int.lt_of_lt_of_le hAr.2 (by
  have:=Nat.pow_le_pow_right (n:=2) (by decide) (show 8*usH b≤40 by omega)
  exact_mod_cast this)
 have hnm:∀_:Unit,nmH b=if usH b=1 then b.getD 0 0 / 8 else j4 b (usH b) / 16:=fun _=>rfl
 have hszd:∀_:Unit,szH b=nmH b % 2^btH b:=fun _=>rfl
 obtain⟨pw,hpw⟩:∃pw:Int,pw=2^btH b:=⟨_,rfl⟩;have hpw1:1≤pw:=by rw[hpw];exact Int.pow_pos (by decide)
 have hpw2:pw≤2^20:=by
  rw[hpw];have:=Nat.pow_le_pow_right (n:=2) (by decide) (show btH b≤20 by omega)
  exact_mod_cast this
 rw[←hpw] at hszd;have hszl:szH b<pw:=by rw[hszd ()];exact Int.emod_lt_of_pos _ (by omega)
 obtain⟨NP,hNP⟩:∃NP:Int,NP=nmH b / pw:=⟨_,rfl⟩;have hNP0:0≤NP∧NP<2^40:=by
  rw[hNP];exact⟨Int.ediv_nonneg hnr.1 (by omega),Int.lt_of_le_of_lt (Int.ediv_le_self _ hnr.1) hnr.2⟩
 rw[show(2:Int)^40=1099511627776 by decide] at hA40 hnr hNP0;rw[show(2:Int)^20=1048576 by decide] at hpw2;obtain⟨BT,hBT⟩:∃BT:Int,BT=(btH b:Int):=⟨_,rfl⟩;have hus1:=fun(_:Unit)=>@koX b
 have emask:=fun(x:Int) (h0:0≤x) (h1:x<18446744073709551616)=>@jY .u64 rfl x (btH b) (by show btH b≤64;omega) h0 h1
 have eshl:bV .shl .u64 1 BT=pw:=by
  have ht:BT.toNat=btH b:=by omega
  rw[kaL rfl (by decide) (by show BT≤((64:Nat):Int);omega) (by rw[ht,Int.one_mul,←hpw];show pw<(2:Int)^64;omega),ht,Int.one_mul,hpw]
 replace hBH:=fun(_:Unit)=>hBH
 rw[←hUS,←hBT] at hidx;rw[←hpw] at emask;refine kj (kG (km (kg kr knZ ?_)))
 intro vb vc vw vtoN vofN vaddN vsubN _ _ vcutN vgd _ vln _ vsub vonto _ _ _ _ _ _ qb qc qw qtoN qofN qaddN qsubN _ _ qcutN qgd _ qln _ qsub qonto _ _ _ _ _;have hm:=kr;generalize Try.prog=P at *;generalize PRd b w cap2 X=PP at *;generalize hSG:seg b=SG at *;generalize kdH b=K at *;generalize fmH b=F at *;generalize szH b=SZ at *;generalize pkH b=PK at *;generalize rwH b=RW at *;generalize j4 b (usH b)=A at *;generalize b.take (usH b)=bt at *;generalize usH b=uN at *;generalize bhH b=BH at *;generalize nmH b=NM at *;generalize btH b=bN at *;generalize hxx:b.getD 0 0=x at *;generalize hwl':w.length=wl at *;generalize hbl':b.length=bl at *;have hgd:∀i,vgd b i=b.getD i 0:=fun i=>by rw[qgd]
 have hlnq:∀l,vln l=l.length:=fun l=>by rw[qln]
 have hlnb:vln b=bl:=by simp only[qln,hbl']
 have haddq:∀a b,vaddN a b=a+b:=fun a b=>by rw[qaddN]
 have ebl:vofN bl=bI:=by rw[qofN,hbI]
 have em1:vc .lss most 0=false:=by rw[qc,ke];omega
 have em2:vc .gtr most 131072=false:=by rw[qc,ku];omega
 have eb0:vc .eql bI 0=false:=by rw[qc,kx];omega
 obtain⟨x4,hx4⟩:∃z,z=x / 4:=⟨_,rfl⟩;have hx4r:0≤x4∧x4<256:=by omega
 have hin:0≤F∧F<4:=by rw[hfd ()];omega
 have ea1:vb .and .u8 x 3=K:=by rw[qb,show(3:Int)=2^2-1 by decide,jY rfl 2 (by decide) hx8.1 (by show x<256;omega)];exact(hkd ()).symm
 have es1:vb .shr .u8 x 2=x4:=by rw[qb,jO (by decide),hx4];rfl
 have ea2:vb .and .u8 x4 3=F:=by rw[qb,show(3:Int)=2^2-1 by decide,jY (k:=.u8) rfl 2 (by decide) hx4r.1 hx4r.2];show x4 % 4=F;rw[hfd (),hx4]
 obtain⟨fN,hfN⟩:∃fN,fN=F.toNat:=⟨_,rfl⟩;have htF:vtoN F=fN:=by rw[qtoN,hfN]
 rw[←hfN] at hidx;cbv at hidx
 have hb1:0<bl:=by omega
 have hbz:(0:Int)<bl:=by omega
 have hlb0:0<vln b:=by rw[hlnb];exact hb1
 have hvx:SV.int .u8 (vgd b 0)=SV.int .u8 x:=by rw[hgd,hxx]
 cbv;rw[em1];cbv;rw[em2];cbv;rw[ebl,eb0];cbv;rw[haddq,hlnb,hgd,hxx,ea1,es1,ea2];refine⟨⟨Int.le_refl 0,hbz⟩,⟨hb1⟩,⟨hb1⟩,?_⟩
 refine⟨⟨Int.le_refl 0,hbz⟩,⟨hb1⟩,⟨hb1⟩,?_⟩
 apply joinL
 ·intro key;refine ka (ρ:=[]) hplain ⟨by rfl,by rfl,by rfl,by cbv⟩ ?_
  rintro v H R js ⟨rfl,rfl,rfl⟩;cbv;rw[htF,hidx];cbv;refine⟨⟨⟨hlb0⟩,hvx⟩,⟨hin⟩,⟨⟨hlb0⟩,hvx⟩,?_⟩
  exact key
 ·intro key;refine⟨⟨⟨hb1⟩,trivial⟩,?_⟩
  refine ka (ρ:=[]) hplain ⟨by rfl,by rfl,by rfl,by cbv⟩ ?_
  rintro v H R js ⟨rfl,rfl,rfl⟩;cbv;rw[htF,hidx];cbv;refine⟨⟨⟨hlb0⟩,hvx⟩,⟨hin⟩,?_⟩
  exact key
 have ege:vc .geq K 2=false:=by rw[qc,kO];omega
 rw[ege];cbv;rw[ebl];generalize hz1:vc .lss bI US=z1;cases z1
 rotate_left
 ·rw[qc,kf] at hz1;cbv;exact⟨[0,1],.tup [.val (.slice none 0 0),.val (.slice none 0 0),.lit .i64 0,.lit .i64 10],[.ro .u8 b,.ro .u8 w],rfl,rfl,rfl,rfl,⟨rfl,rfl,trivial⟩,rfl,pbad 10 (f10a () hz1)⟩
 rw[qc,ke] at hz1;have hlu:¬bI<US:=hz1;try simp only[nc] at *
 have hub:uN≤bl:=by omega
 have htU0:vtoN US=uN:=by rw[qtoN,hUS];exact Int.toNat_natCast uN
 have huc:uN≤cap:=by omega
 obtain⟨A4,hA4⟩:∃A4,A4=A / 16:=⟨_,rfl⟩;have eA4:vb .shr .u64 A 4=A4:=by rw[qb,jO (by decide),hA4];rfl
 cbv;rw[htU0];refine⟨⟨by((try simp only[nc] at *);omega),by((try simp only[nc] at *);omega)⟩,?_⟩
 refine ka (ρ:=[(0,.z)]) (hnum cap hub) ⟨by rfl,by rfl,by rfl,by cbv;exact⟨hvt hub,trivial⟩⟩ ?_
 rintro v H R js ⟨rfl,rfl,rfl⟩;cbv;rw[eA4];try simp only[nc] at *
 by_cases hU1:uN=1
 ·have eU:vc .eql US 1=true:=by rw[qc,kF];omega
  have hNM:NM=x / 8:=by rw[hnm (),if_pos hU1]
  have eNM:vb .shr .u8 x 3=NM:=by rw[qb,jO (by decide),hNM];rfl
  have ewNM:vw .u64 NM=NM:=by rw[qw];exact wrap_u64 (by omega) (by omega)
  rw[eU];cbv;rw[haddq,hlnb,hgd,hxx,eNM,ewNM];refine⟨⟨Int.le_refl 0,hbz⟩,⟨hb1⟩,⟨hb1⟩,?_⟩

  try simp only[nc] at *
  have hBT0:0≤BT:=by omega
  have ewb:vw .u64 BT=BT:=by rw[qw];exact wrap_u64 (by omega) (by omega)
  have esh:vb .shl .u64 1 BT=pw:=by rw[qb];exact eshl
  obtain⟨pm,hpm⟩:∃pm,pm=pw-1:=⟨_,rfl⟩;have esu:vb .sub .u64 pw 1=pm:=by rw[qb,hpm];exact wrap_u64 (by omega) (by omega)
  have ema:vb .and .u64 NM pm=SZ:=by rw[qb,hpm,emask NM hnr.1 (by omega),hszd ()]
  have ews:vw .i64 SZ=SZ:=by rw[qw];exact wrap_i64 (by omega) (by omega)
  have enp:vb .shr .u64 NM BT=NP:=by
   have ht:BT.toNat=bN:=by omega
   have h0:BT≤((64:Nat):Int):=by omega
   rw[qb,jO h0,ht,←hpw,hNP]
  have ewn:vw .i64 NP=NP:=by rw[qw];exact wrap_i64 (by omega) (by omega)
  rw[ewb,esh,esu,ema,ews];refine⟨⟨hBT0⟩,?_⟩
  generalize hz4:vc .gtr SZ most=z4;cases z4
  rotate_left
  ·rw[qc,kz] at hz4;cbv;exact⟨[0,1],.tup [.val (.slice none 0 0),.val (.slice none 0 0),.lit .i64 0,.lit .i64 11],[.ro .u8 b,.ro .u8 w],rfl,rfl,rfl,rfl,⟨rfl,rfl,trivial⟩,rfl,pbad 11 (f11 () hlu (by omega))⟩
  rw[qc,ku] at hz4;try simp only[nc] at *
  have hszm:¬most<SZ:=by omega
  cbv;rw[ewb,enp,ewn];refine⟨⟨hBT0⟩,?_⟩
  rcases(show K=0∨K=1 by omega) with hK|hK
  ·have eK0:vc .eql K 0=true:=by rw[qc,kF];omega
   rw[eK0];cbv

   try simp only[nc] at *
   have hBB:BH=SZ:=by rw[hBH ()];exact if_pos hK
   obtain⟨uI,huI⟩:∃uI,uI=US+SZ:=⟨_,rfl⟩;have euI:vb .add .i64 US SZ=uI:=by rw[qb,kh (by omega) (by omega),huI]
   replace f10b:=f10b () hlu hszm
   replace fB:=fB () hlu hszm
   rw[hBB] at f10b fB;rw[←huI] at f10b fB;rw[ebl,euI];generalize hz5:vc .lss bI uI=z5;cases z5
   rotate_left
   ·rw[qc,kf] at hz5;cbv;exact⟨[0,1],.tup [.val (.slice none 0 0),.val (.slice none 0 0),.lit .i64 0,.lit .i64 10],[.ro .u8 b,.ro .u8 w],rfl,rfl,rfl,rfl,⟨rfl,rfl,trivial⟩,rfl,pbad 10 (f10b (by omega))⟩
   rw[qc,ke] at hz5;try simp only[nc] at *
   have fB:=fB hz5;clear f10b;obtain⟨nN,hnN⟩:∃nN:Nat,SZ=(nN:Int):=⟨(SZ:Int).toNat,by omega⟩;have htB:(SZ:Int).toNat=nN:=by rw[hnN];exact Int.toNat_natCast nN
   rw[htB] at fB;have htU:vtoN US=uN:=by rw[qtoN,hUS];exact Int.toNat_natCast uN
   obtain⟨eN,heN⟩:∃eN:Nat,eN=uN+nN:=⟨_,rfl⟩;have hue:uI=(eN:Int):=by omega
   have htu:vtoN uI=eN:=by rw[qtoN,hue];exact Int.toNat_natCast eN
   have hsb:vsubN eN uN=nN:=by rw[qsubN];simp only;omega
   obtain⟨o1,ho1⟩:∃o1,o1=vcutN 0 uN eN:=⟨_,rfl⟩;have ho:o1=uN∨nN=0∧o1≤bl:=by
    have e:o1=if eN=uN then 0 else 0+uN:=by rw[ho1,qcutN]
    by_cases h:eN=uN
    ·rw[if_pos h] at e;right;constructor<;>omega
    ·rw[if_neg h] at e;left;omega
   have hebl:eN≤bl:=by omega
   have hsl:=hseg uN nN (by omega);have hv1:=hvs uN nN o1 (by omega) ho;have hsm1:=hsm uN nN;have hsd1:=hsegd uN nN;generalize hsg:SG uN nN=sg at *

   have fC:X=.keep sg uI:=by rw[fB];unfold kaz;rw[if_pos hK]
   clear fB;have hvs1:vsub b o1 nN=sg:=by
    rw[qsub,hsd1];rcases ho with rfl|⟨h,_⟩
    ·rfl
    ·simp only[h,List.take_zero]
   have ha0:vaddN 0 nN=nN:=by rw[haddq,Nat.zero_add]
   have hon:∀l,vonto [] 0 l=l:=fun l=>by rw[qonto];simp
   cbv;rw[htU,htu,←ho1,hsb];refine⟨⟨by((try simp only[nc] at *);omega),by((try simp only[nc] at *);omega)⟩,⟨by((try simp only[nc] at *);omega),by((try simp only[nc] at *);omega)⟩,⟨by((try simp only[nc] at *);omega),by((try simp only[nc] at *);omega)⟩,?_⟩
   rw[eK0];cbv;refine⟨⟨by rw[haddq,hlnb];((try simp only[nc] at *);omega)⟩,⟨Nat.zero_le _⟩,⟨Nat.zero_le _⟩,⟨by rw[haddq];((try simp only[nc] at *);omega)⟩,?_⟩
   intro c1 js1 hle;have hle2:nN≤c1:=by have h:vaddN 0 nN≤c1:=hle.out;rw[haddq,Nat.zero_add] at h;exact h
   cbv;rw[hvs1,hon,ha0];subst hsl;exact⟨[0,1,3],.tup [.slice 2 .z 1 sg.length c1,.slice 1 .z 1 wl cap2,.int .i64 uI,.lit .i64 0],[.ro .u8 b,.ro .u8 w,.buf 5 .u8 sg c1],rfl,rfl,rfl,rfl,⟨rfl,rfl,rfl,trivial⟩,rfl,pkeep sg uI c1 hle2 fC⟩
  ·have eK0:vc .eql K 0=false:=by rw[qc,kx];omega
   have eK1:vc .eql K 1=true:=by rw[qc,kF];omega
   rw[eK0];cbv;rw[eK1];cbv

   try simp only[nc] at *
   have hBB:BH=1:=by rw[hBH ()];rw[if_neg (by omega),if_pos hK]
   obtain⟨uI,huI⟩:∃uI,uI=US+1:=⟨_,rfl⟩;have euI:vb .add .i64 US 1=uI:=by rw[qb,kh (by omega) (by omega),huI]
   replace f10b:=f10b () hlu hszm
   replace fB:=fB () hlu hszm
   rw[hBB] at f10b fB;rw[←huI] at f10b fB;rw[ebl,euI];generalize hz5:vc .lss bI uI=z5;cases z5
   rotate_left
   ·rw[qc,kf] at hz5;cbv;exact⟨[0,1],.tup [.val (.slice none 0 0),.val (.slice none 0 0),.lit .i64 0,.lit .i64 10],[.ro .u8 b,.ro .u8 w],rfl,rfl,rfl,rfl,⟨rfl,rfl,trivial⟩,rfl,pbad 10 (f10b (by omega))⟩
   rw[qc,ke] at hz5;try simp only[nc] at *
   have fB:=fB hz5;clear f10b;obtain⟨nN,hnN⟩:∃nN:Nat,1=(nN:Int):=⟨(1:Int).toNat,by omega⟩;have htB:(1:Int).toNat=nN:=by rw[hnN];exact Int.toNat_natCast nN
   rw[htB] at fB;have htU:vtoN US=uN:=by rw[qtoN,hUS];exact Int.toNat_natCast uN
   obtain⟨eN,heN⟩:∃eN:Nat,eN=uN+nN:=⟨_,rfl⟩;have hue:uI=(eN:Int):=by omega
   have htu:vtoN uI=eN:=by rw[qtoN,hue];exact Int.toNat_natCast eN
   have hsb:vsubN eN uN=nN:=by rw[qsubN];simp only;omega
   obtain⟨o1,ho1⟩:∃o1,o1=vcutN 0 uN eN:=⟨_,rfl⟩;have ho:o1=uN∨nN=0∧o1≤bl:=by
    have e:o1=if eN=uN then 0 else 0+uN:=by rw[ho1,qcutN]
    by_cases h:eN=uN
    ·rw[if_pos h] at e;right;constructor<;>omega
    ·rw[if_neg h] at e;left;omega
   have hebl:eN≤bl:=by omega
   have hsl:=hseg uN nN (by omega);have hv1:=hvs uN nN o1 (by omega) ho;have hsm1:=hsm uN nN;have hsd1:=hsegd uN nN;generalize hsg:SG uN nN=sg at *

   obtain⟨y,hy⟩:∃y,y=sg.getD 0 0:=⟨_,rfl⟩;obtain⟨zN,hzN⟩:∃zN,zN=SZ.toNat:=⟨_,rfl⟩;have fC:X=.rep y zN uI:=by rw[fB];unfold kaz;rw[if_neg (by omega),if_pos hK,hy,hzN]
   clear fB;have hn1:nN=1:=by omega
   have hsg1:sg=[y]:=by
    rw[hn1] at hsl;match sg,hsl with
    |[z],_=>rw[hy];rfl
   have hy8:kv y:=hsm1 y (by rw[hsg1];exact List.mem_singleton.2 rfl);have hrep:=hrepA y nN SZ hy8 ⟨hsz0,by omega⟩;rw[←hzN] at hrep;subst hsg1;subst hn1;cbv;rw[htU,htu,←ho1,hsb];refine⟨⟨by((try simp only[nc] at *);omega),by((try simp only[nc] at *);omega)⟩,⟨by((try simp only[nc] at *);omega),by((try simp only[nc] at *);omega)⟩,⟨by((try simp only[nc] at *);omega),by((try simp only[nc] at *);omega)⟩,?_⟩
   rw[eK0];cbv;rw[eK1];cbv;refine ka (ρ:=[(0,.n o1)]) hrep ⟨by rfl,by rfl,by rfl,by cbv;exact⟨hv1,trivial⟩⟩ ?_
   rintro v H R js4 ⟨rfl,L,c,hL1,hL2,rfl,rfl,hLc⟩;cbv;exact⟨[0,1,3],.tup [.slice 2 .z 1 zN c,.slice 1 .z 1 wl cap2,.int .i64 uI,.lit .i64 0],[.ro .u8 b,.ro .u8 w,.ints 5 .u8 L],rfl,rfl,rfl,rfl,⟨rfl,rfl,rfl,trivial⟩,rfl,prep y zN uI L c hLc hL1 hL2 fC⟩
 ·have eU:vc .eql US 1=false:=by rw[qc,kx];omega
  obtain rfl:NM=A4:=by rw[hnm (),if_neg hU1,hA4]
  rw[eU];cbv

  try simp only[nc] at *
  have hBT0:0≤BT:=by omega
  have ewb:vw .u64 BT=BT:=by rw[qw];exact wrap_u64 (by omega) (by omega)
  have esh:vb .shl .u64 1 BT=pw:=by rw[qb];exact eshl
  obtain⟨pm,hpm⟩:∃pm,pm=pw-1:=⟨_,rfl⟩;have esu:vb .sub .u64 pw 1=pm:=by rw[qb,hpm];exact wrap_u64 (by omega) (by omega)
  have ema:vb .and .u64 NM pm=SZ:=by rw[qb,hpm,emask NM hnr.1 (by omega),hszd ()]
  have ews:vw .i64 SZ=SZ:=by rw[qw];exact wrap_i64 (by omega) (by omega)
  have enp:vb .shr .u64 NM BT=NP:=by
   have ht:BT.toNat=bN:=by omega
   have h0:BT≤((64:Nat):Int):=by omega
   rw[qb,jO h0,ht,←hpw,hNP]
  have ewn:vw .i64 NP=NP:=by rw[qw];exact wrap_i64 (by omega) (by omega)
  rw[ewb,esh,esu,ema,ews];refine⟨⟨hBT0⟩,?_⟩
  generalize hz4:vc .gtr SZ most=z4;cases z4
  rotate_left
  ·rw[qc,kz] at hz4;cbv;exact⟨[0,1],.tup [.val (.slice none 0 0),.val (.slice none 0 0),.lit .i64 0,.lit .i64 11],[.ro .u8 b,.ro .u8 w],rfl,rfl,rfl,rfl,⟨rfl,rfl,trivial⟩,rfl,pbad 11 (f11 () hlu (by omega))⟩
  rw[qc,ku] at hz4;try simp only[nc] at *
  have hszm:¬most<SZ:=by omega
  cbv;rw[ewb,enp,ewn];refine⟨⟨hBT0⟩,?_⟩
  rcases(show K=0∨K=1 by omega) with hK|hK
  ·have eK0:vc .eql K 0=true:=by rw[qc,kF];omega
   rw[eK0];cbv

   try simp only[nc] at *
   have hBB:BH=SZ:=by rw[hBH ()];exact if_pos hK
   obtain⟨uI,huI⟩:∃uI,uI=US+SZ:=⟨_,rfl⟩;have euI:vb .add .i64 US SZ=uI:=by rw[qb,kh (by omega) (by omega),huI]
   replace f10b:=f10b () hlu hszm
   replace fB:=fB () hlu hszm
   rw[hBB] at f10b fB;rw[←huI] at f10b fB;rw[ebl,euI];generalize hz5:vc .lss bI uI=z5;cases z5
   rotate_left
   ·rw[qc,kf] at hz5;cbv;exact⟨[0,1],.tup [.val (.slice none 0 0),.val (.slice none 0 0),.lit .i64 0,.lit .i64 10],[.ro .u8 b,.ro .u8 w],rfl,rfl,rfl,rfl,⟨rfl,rfl,trivial⟩,rfl,pbad 10 (f10b (by omega))⟩
   rw[qc,ke] at hz5;try simp only[nc] at *
   have fB:=fB hz5;clear f10b;obtain⟨nN,hnN⟩:∃nN:Nat,SZ=(nN:Int):=⟨(SZ:Int).toNat,by omega⟩;have htB:(SZ:Int).toNat=nN:=by rw[hnN];exact Int.toNat_natCast nN
   rw[htB] at fB;have htU:vtoN US=uN:=by rw[qtoN,hUS];exact Int.toNat_natCast uN
   obtain⟨eN,heN⟩:∃eN:Nat,eN=uN+nN:=⟨_,rfl⟩;have hue:uI=(eN:Int):=by omega
   have htu:vtoN uI=eN:=by rw[qtoN,hue];exact Int.toNat_natCast eN
   have hsb:vsubN eN uN=nN:=by rw[qsubN];simp only;omega
   obtain⟨o1,ho1⟩:∃o1,o1=vcutN 0 uN eN:=⟨_,rfl⟩;have ho:o1=uN∨nN=0∧o1≤bl:=by
    have e:o1=if eN=uN then 0 else 0+uN:=by rw[ho1,qcutN]
    by_cases h:eN=uN
    ·rw[if_pos h] at e;right;constructor<;>omega
    ·rw[if_neg h] at e;left;omega
   have hebl:eN≤bl:=by omega
   have hsl:=hseg uN nN (by omega);have hv1:=hvs uN nN o1 (by omega) ho;have hsm1:=hsm uN nN;have hsd1:=hsegd uN nN;generalize hsg:SG uN nN=sg at *

   have fC:X=.keep sg uI:=by rw[fB];unfold kaz;rw[if_pos hK]
   clear fB;have hvs1:vsub b o1 nN=sg:=by
    rw[qsub,hsd1];rcases ho with rfl|⟨h,_⟩
    ·rfl
    ·simp only[h,List.take_zero]
   have ha0:vaddN 0 nN=nN:=by rw[haddq,Nat.zero_add]
   have hon:∀l,vonto [] 0 l=l:=fun l=>by rw[qonto];simp
   cbv;rw[htU,htu,←ho1,hsb];refine⟨⟨by((try simp only[nc] at *);omega),by((try simp only[nc] at *);omega)⟩,⟨by((try simp only[nc] at *);omega),by((try simp only[nc] at *);omega)⟩,⟨by((try simp only[nc] at *);omega),by((try simp only[nc] at *);omega)⟩,?_⟩
   rw[eK0];cbv;refine⟨⟨by rw[haddq,hlnb];((try simp only[nc] at *);omega)⟩,⟨Nat.zero_le _⟩,⟨Nat.zero_le _⟩,⟨by rw[haddq];((try simp only[nc] at *);omega)⟩,?_⟩
   intro c1 js1 hle;have hle2:nN≤c1:=by have h:vaddN 0 nN≤c1:=hle.out;rw[haddq,Nat.zero_add] at h;exact h
   cbv;rw[hvs1,hon,ha0];subst hsl;exact⟨[0,1,3],.tup [.slice 2 .z 1 sg.length c1,.slice 1 .z 1 wl cap2,.int .i64 uI,.lit .i64 0],[.ro .u8 b,.ro .u8 w,.buf 5 .u8 sg c1],rfl,rfl,rfl,rfl,⟨rfl,rfl,rfl,trivial⟩,rfl,pkeep sg uI c1 hle2 fC⟩
  ·have eK0:vc .eql K 0=false:=by rw[qc,kx];omega
   have eK1:vc .eql K 1=true:=by rw[qc,kF];omega
   rw[eK0];cbv;rw[eK1];cbv

   try simp only[nc] at *
   have hBB:BH=1:=by rw[hBH ()];rw[if_neg (by omega),if_pos hK]
   obtain⟨uI,huI⟩:∃uI,uI=US+1:=⟨_,rfl⟩;have euI:vb .add .i64 US 1=uI:=by rw[qb,kh (by omega) (by omega),huI]
   replace f10b:=f10b () hlu hszm
   replace fB:=fB () hlu hszm
   rw[hBB] at f10b fB;rw[←huI] at f10b fB;rw[ebl,euI];generalize hz5:vc .lss bI uI=z5;cases z5
   rotate_left
   ·rw[qc,kf] at hz5;cbv;exact⟨[0,1],.tup [.val (.slice none 0 0),.val (.slice none 0 0),.lit .i64 0,.lit .i64 10],[.ro .u8 b,.ro .u8 w],rfl,rfl,rfl,rfl,⟨rfl,rfl,trivial⟩,rfl,pbad 10 (f10b (by omega))⟩
   rw[qc,ke] at hz5;try simp only[nc] at *
   have fB:=fB hz5;clear f10b;obtain⟨nN,hnN⟩:∃nN:Nat,1=(nN:Int):=⟨(1:Int).toNat,by omega⟩;have htB:(1:Int).toNat=nN:=by rw[hnN];exact Int.toNat_natCast nN
   rw[htB] at fB;have htU:vtoN US=uN:=by rw[qtoN,hUS];exact Int.toNat_natCast uN
   obtain⟨eN,heN⟩:∃eN:Nat,eN=uN+nN:=⟨_,rfl⟩;have hue:uI=(eN:Int):=by omega
   have htu:vtoN uI=eN:=by rw[qtoN,hue];exact Int.toNat_natCast eN
   have hsb:vsubN eN uN=nN:=by rw[qsubN];simp only;omega
   obtain⟨o1,ho1⟩:∃o1,o1=vcutN 0 uN eN:=⟨_,rfl⟩;have ho:o1=uN∨nN=0∧o1≤bl:=by
    have e:o1=if eN=uN then 0 else 0+uN:=by rw[ho1,qcutN]
    by_cases h:eN=uN
    ·rw[if_pos h] at e;right;constructor<;>omega
    ·rw[if_neg h] at e;left;omega
   have hebl:eN≤bl:=by omega
   have hsl:=hseg uN nN (by omega);have hv1:=hvs uN nN o1 (by omega) ho;have hsm1:=hsm uN nN;have hsd1:=hsegd uN nN;generalize hsg:SG uN nN=sg at *

   obtain⟨y,hy⟩:∃y,y=sg.getD 0 0:=⟨_,rfl⟩;obtain⟨zN,hzN⟩:∃zN,zN=SZ.toNat:=⟨_,rfl⟩;have fC:X=.rep y zN uI:=by rw[fB];unfold kaz;rw[if_neg (by omega),if_pos hK,hy,hzN]
   clear fB;have hn1:nN=1:=by omega
   have hsg1:sg=[y]:=by
    rw[hn1] at hsl;match sg,hsl with
    |[z],_=>rw[hy];rfl
   have hy8:kv y:=hsm1 y (by rw[hsg1];exact List.mem_singleton.2 rfl);have hrep:=hrepA y nN SZ hy8 ⟨hsz0,by omega⟩;rw[←hzN] at hrep;subst hsg1;subst hn1;cbv;rw[htU,htu,←ho1,hsb];refine⟨⟨by((try simp only[nc] at *);omega),by((try simp only[nc] at *);omega)⟩,⟨by((try simp only[nc] at *);omega),by((try simp only[nc] at *);omega)⟩,⟨by((try simp only[nc] at *);omega),by((try simp only[nc] at *);omega)⟩,?_⟩
   rw[eK0];cbv;rw[eK1];cbv;refine ka (ρ:=[(0,.n o1)]) hrep ⟨by rfl,by rfl,by rfl,by cbv;exact⟨hv1,trivial⟩⟩ ?_
   rintro v H R js4 ⟨rfl,L,c,hL1,hL2,rfl,rfl,hLc⟩;cbv;exact⟨[0,1,3],.tup [.slice 2 .z 1 zN c,.slice 1 .z 1 wl cap2,.int .i64 uI,.lit .i64 0],[.ro .u8 b,.ro .u8 w,.ints 5 .u8 L],rfl,rfl,rfl,rfl,⟨rfl,rfl,rfl,trivial⟩,rfl,prep y zN uI L c hLc hL1 hL2 fC⟩

theorem kq0 (b w:List Int) (cap cap2:Nat) (most:Int) (hb:∀c∈b,kv c) (hw8:∀c∈w,kv c) (hbl:b.length≤140737488355328) (hwl:w.length≤140737488355328) (hcap:b.length≤cap) (hk:¬kdH b<2) (hb0:¬b.length=0) (hmo:¬(most<0∨131072<most)) :
  Con Try.prog 23 [.slice 0 .z 1 b.length cap,.slice 1 .z 1 w.length cap2,.int .i64 most] [.ro .u8 b,.ro .u8 w] (fun v H R=>R=[]∧PRd b w cap2 (RdL b w most) v H):=by
 obtain⟨f2,f10,f10a,f11,f10b,fB⟩:=qR b w most;have hk4:=kfH hb;have hsz0:=koL b;have hpk:=kg4 hb;have hus:=kku b;have hBH:bhH b=if kdH b=0 then szH b else if kdH b=1 then 1 else pkH b:=rfl
 obtain⟨X,hX⟩:∃X,X=RdL b w most:=⟨_,rfl⟩;have pbad:∀e,X=.bad e→PRd b w cap2 X (.tup [.val (.slice none 0 0),.val (.slice none 0 0),.int .i64 0,.int .i64 e]) [.ro .u8 b,.ro .u8 w]:=by
  intro e h;rw[h];exact⟨rfl,rfl⟩
 have pkeep:∀L u c,L.length≤c→X=.keep L u→PRd b w cap2 X (.tup [.slice 2 .z 1 L.length c,.slice 1 .z 1 w.length cap2,.int .i64 u,.int .i64 0]) [.ro .u8 b,.ro .u8 w,.buf 5 .u8 L c]:=by
  intro L u c h0 h;rw[h];exact⟨c,h0,rfl,rfl⟩
 have prep:∀x n u L c,n≤c→n≤L.length→L.take n=List.replicate n x→X=.rep x n u→PRd b w cap2 X (.tup [.slice 2 .z 1 n c,.slice 1 .z 1 w.length cap2,.int .i64 u,.int .i64 0]) [.ro .u8 b,.ro .u8 w,.ints 5 .u8 L]:=by
  intro x n u L c h0 h1 h2 h;rw[h];exact⟨L,c,h0,h1,h2,rfl,rfl⟩
 have pown:∀L l u c c3,L.length≤c→X=.own L l u→PRd b w cap2 X (.tup [.slice 2 .z 1 L.length c,.slice 3 .z 1 l.length c3,.int .i64 u,.int .i64 0]) [.ro .u8 b,.ro .u8 w,.buf 5 .u8 L c,.buf 5 .u8 l c3]:=by
  intro L l u c c3 h0 h;rw[h];exact⟨c,c3,h0,rfl,rfl⟩
 obtain⟨US,hUS⟩:∃US:Int,US=(usH b:Int):=⟨_,rfl⟩;obtain⟨bI,hbI⟩:∃bI:Int,bI=(b.length:Int):=⟨_,rfl⟩;rw[←hUS,←hbI] at f10a f11 f10b fB;rw[←hX] at f2 f10 f10a f11 f10b fB ⊢
 have hrowsA:=kjp;have hrdA:=klr;have hrepA:=kf5;have hseg:=fun o n h=>@qz b o n h
 have hvs:=fun o n x h hx=>@kdt b o n x h hx
 have hsm:=fun o n=>@kds b o n kv hb
 have hsegd:∀o n,seg b o n=(b.drop o).take n:=fun _ _=>rfl
 replace f10a:=fun(_:Unit)=>f10a hmo hb0
 replace f11:=fun(_:Unit)=>f11 hmo hb0
 replace f10b:=fun(_:Unit)=>f10b hmo hb0
 replace fB:=fun(_:Unit)=>fB hmo hb0
 clear f2 f10;have hplain:=kgY;have hpacked:=kf4;have hidx:=kkO hb hk;have hpko:=krV hk;obtain⟨p0,q0,r0,hidx0⟩:=kpS hb;have hx8:=jm hb 0;unfold kv at hx8;have hkd:∀_:Unit,kdH b=b.getD 0 0 % 4:=fun _=>rfl
 have hfd:∀_:Unit,fmH b=b.getD 0 0 / 4 % 4:=fun _=>rfl
 have hbt:=koM b;have hnr:=kgZ hb;have hAr:=jQ hb (usH b);have hnum:=fun c h=>keI b (usH b) c hb h (by omega)
 have hvt:=kg2 b (usH b);have hA40:j4 b (usH b)<2^40:=Int.lt_of_lt_of_le hAr.2 (by
  have:=Nat.pow_le_pow_right (n:=2) (by decide) (show 8*usH b≤40 by omega)
  exact_mod_cast this)
 have hnm:∀_:Unit,nmH b=if usH b=1 then b.getD 0 0 / 8 else j4 b (usH b) / 16:=fun _=>rfl
 have hszd:∀_:Unit,szH b=nmH b % 2^btH b:=fun _=>rfl
 obtain⟨pw,hpw⟩:∃pw:Int,pw=2^btH b:=⟨_,rfl⟩;have hpw1:1≤pw:=by rw[hpw];exact Int.pow_pos (by decide)
 have hpw2:pw≤2^20:=by
  rw[hpw];have:=Nat.pow_le_pow_right (n:=2) (by decide) (show btH b≤20 by omega)
  exact_mod_cast this
 rw[←hpw] at hszd;have hszl:szH b<pw:=by rw[hszd ()];exact Int.emod_lt_of_pos _ (by omega)
 obtain⟨NP,hNP⟩:∃NP:Int,NP=nmH b / pw:=⟨_,rfl⟩;have hNP0:0≤NP∧NP<2^40:=by
  rw[hNP];exact⟨Int.ediv_nonneg hnr.1 (by omega),Int.lt_of_le_of_lt (Int.ediv_le_self _ hnr.1) hnr.2⟩
 rw[show(2:Int)^40=1099511627776 by decide] at hA40 hnr hNP0;rw[show(2:Int)^20=1048576 by decide] at hpw2;obtain⟨BT,hBT⟩:∃BT:Int,BT=(btH b:Int):=⟨_,rfl⟩;have hus1:=fun(_:Unit)=>@koX b
 have emask:=fun(x:Int) (h0:0≤x) (h1:x<18446744073709551616)=>@jY .u64 rfl x (btH b) (by show btH b≤64;omega) h0 h1
 have eshl:bV .shl .u64 1 BT=pw:=by
  have ht:BT.toNat=btH b:=by omega
  rw[kaL rfl (by decide) (by show BT≤((64:Nat):Int);omega) (by rw[ht,Int.one_mul,←hpw];show pw<(2:Int)^64;omega),ht,Int.one_mul,hpw]
 replace hBH:=fun(_:Unit)=>hBH
 rw[←hUS,←hBT] at hidx;rw[←hpw] at emask;refine kj (kG (km (kg kr knZ ?_)))
 intro vb vc vw vtoN vofN vaddN vsubN _ _ vcutN vgd _ vln _ _ _ _ _ _ _ _ _ qb qc qw qtoN qofN qaddN qsubN _ _ qcutN qgd _ qln _ _ _ _ _ _ _ _;have hm:=kr;generalize Try.prog=P at *;generalize PRd b w cap2 X=PP at *;generalize hSG:seg b=SG at *;generalize kdH b=K at *;generalize fmH b=F at *;generalize szH b=SZ at *;generalize pkH b=PK at *;generalize rwH b=RW at *;generalize j4 b (usH b)=A at *;generalize b.take (usH b)=bt at *;generalize usH b=uN at *;generalize bhH b=BH at *;generalize nmH b=NM at *;generalize btH b=bN at *;generalize hxx:b.getD 0 0=x at *;generalize hwl':w.length=wl at *;generalize hbl':b.length=bl at *;have hgd:∀i,vgd b i=b.getD i 0:=fun i=>by rw[qgd]
 have hlnq:∀l,vln l=l.length:=fun l=>by rw[qln]
 have hlnb:vln b=bl:=by simp only[qln,hbl']
 have haddq:∀a b,vaddN a b=a+b:=fun a b=>by rw[qaddN]
 have ebl:vofN bl=bI:=by rw[qofN,hbI]
 have em1:vc .lss most 0=false:=by rw[qc,ke];omega
 have em2:vc .gtr most 131072=false:=by rw[qc,ku];omega
 have eb0:vc .eql bI 0=false:=by rw[qc,kx];omega
 obtain⟨x4,hx4⟩:∃z,z=x / 4:=⟨_,rfl⟩;have hx4r:0≤x4∧x4<256:=by omega
 have hin:0≤F∧F<4:=by rw[hfd ()];omega
 have ea1:vb .and .u8 x 3=K:=by rw[qb,show(3:Int)=2^2-1 by decide,jY rfl 2 (by decide) hx8.1 (by show x<256;omega)];exact(hkd ()).symm
 have es1:vb .shr .u8 x 2=x4:=by rw[qb,jO (by decide),hx4];rfl
 have ea2:vb .and .u8 x4 3=F:=by rw[qb,show(3:Int)=2^2-1 by decide,jY (k:=.u8) rfl 2 (by decide) hx4r.1 hx4r.2];show x4 % 4=F;rw[hfd (),hx4]
 obtain⟨fN,hfN⟩:∃fN,fN=F.toNat:=⟨_,rfl⟩;have htF:vtoN F=fN:=by rw[qtoN,hfN]
 rw[←hfN] at hidx hidx0;cbv at hidx
 cbv at hidx0
 have hb1:0<bl:=by omega
 have hbz:(0:Int)<bl:=by omega
 have hlb0:0<vln b:=by rw[hlnb];exact hb1
 have hvx:SV.int .u8 (vgd b 0)=SV.int .u8 x:=by rw[hgd,hxx]
 cbv;rw[em1];cbv;rw[em2];cbv;rw[ebl,eb0];cbv;rw[haddq,hlnb,hgd,hxx,ea1,es1,ea2];refine⟨⟨Int.le_refl 0,hbz⟩,⟨hb1⟩,⟨hb1⟩,?_⟩
 refine⟨⟨Int.le_refl 0,hbz⟩,⟨hb1⟩,⟨hb1⟩,?_⟩
 apply joinL
 ·intro key;refine ka (ρ:=[]) hplain ⟨by rfl,by rfl,by rfl,by cbv⟩ ?_
  rintro v H R js ⟨rfl,rfl,rfl⟩;cbv;rw[htF,hidx0];cbv;refine⟨⟨⟨hlb0⟩,hvx⟩,⟨hin⟩,⟨⟨hlb0⟩,hvx⟩,?_⟩
  exact key
 ·intro key;refine⟨⟨⟨hb1⟩,trivial⟩,?_⟩
  refine ka (ρ:=[]) hplain ⟨by rfl,by rfl,by rfl,by cbv⟩ ?_
  rintro v H R js ⟨rfl,rfl,rfl⟩;cbv;rw[htF,hidx0];cbv;refine⟨⟨⟨hlb0⟩,hvx⟩,⟨hin⟩,?_⟩
  exact key
 have ege:vc .geq K 2=true:=by rw[qc,jb];omega
 rw[ege];cbv;rw[haddq,hlnb,hgd,hxx,es1,ea2];refine⟨⟨Int.le_refl 0,hbz⟩,⟨hb1⟩,⟨hb1⟩,?_⟩
 refine ka (ρ:=[]) hpacked ⟨by rfl,by rfl,by rfl,by cbv⟩ ?_
 rintro v H R js ⟨rfl,rfl,rfl⟩;cbv;rw[htF,hidx];cbv;refine⟨⟨⟨hlb0⟩,hvx⟩,⟨hin⟩,?_⟩
 rw[ebl];generalize hz1:vc .lss bI US=z1;cases z1
 rotate_left
 ·rw[qc,kf] at hz1;cbv;exact⟨[0,1],.tup [.val (.slice none 0 0),.val (.slice none 0 0),.lit .i64 0,.lit .i64 10],[.ro .u8 b,.ro .u8 w],rfl,rfl,rfl,rfl,⟨rfl,rfl,trivial⟩,rfl,pbad 10 (f10a () hz1)⟩
 rw[qc,ke] at hz1;have hlu:¬bI<US:=hz1;try simp only[nc] at *
 have hub:uN≤bl:=by omega
 have htU0:vtoN US=uN:=by rw[qtoN,hUS];exact Int.toNat_natCast uN
 have huc:uN≤cap:=by omega
 obtain⟨A4,hA4⟩:∃A4,A4=A / 16:=⟨_,rfl⟩;have eA4:vb .shr .u64 A 4=A4:=by rw[qb,jO (by decide),hA4];rfl
 cbv;rw[htU0];refine⟨⟨by((try simp only[nc] at *);omega),by((try simp only[nc] at *);omega)⟩,?_⟩
 refine ka (ρ:=[(0,.z)]) (hnum cap hub) ⟨by rfl,by rfl,by rfl,by cbv;exact⟨hvt hub,trivial⟩⟩ ?_
 rintro v H R js ⟨rfl,rfl,rfl⟩;cbv;rw[eA4];try simp only[nc] at *
 have hU1:¬uN=1:=fun h=>hk (hus1 () h)
 have eU:vc .eql US 1=false:=by rw[qc,kx];omega
 obtain rfl:NM=A4:=by rw[hnm (),if_neg hU1,hA4]
 obtain rfl:NP=PK:=by rw[hpko,hNP,hpw]
 rw[eU];cbv

 try simp only[nc] at *
 have hBT0:0≤BT:=by omega
 have ewb:vw .u64 BT=BT:=by rw[qw];exact wrap_u64 (by omega) (by omega)
 have esh:vb .shl .u64 1 BT=pw:=by rw[qb];exact eshl
 obtain⟨pm,hpm⟩:∃pm,pm=pw-1:=⟨_,rfl⟩;have esu:vb .sub .u64 pw 1=pm:=by rw[qb,hpm];exact wrap_u64 (by omega) (by omega)
 have ema:vb .and .u64 NM pm=SZ:=by rw[qb,hpm,emask NM hnr.1 (by omega),hszd ()]
 have ews:vw .i64 SZ=SZ:=by rw[qw];exact wrap_i64 (by omega) (by omega)
 have enp:vb .shr .u64 NM BT=NP:=by
  have ht:BT.toNat=bN:=by omega
  have h0:BT≤((64:Nat):Int):=by omega
  rw[qb,jO h0,ht,←hpw,hNP]
 have ewn:vw .i64 NP=NP:=by rw[qw];exact wrap_i64 (by omega) (by omega)
 rw[ewb,esh,esu,ema,ews];refine⟨⟨hBT0⟩,?_⟩
 generalize hz4:vc .gtr SZ most=z4;cases z4
 rotate_left
 ·rw[qc,kz] at hz4;cbv;exact⟨[0,1],.tup [.val (.slice none 0 0),.val (.slice none 0 0),.lit .i64 0,.lit .i64 11],[.ro .u8 b,.ro .u8 w],rfl,rfl,rfl,rfl,⟨rfl,rfl,trivial⟩,rfl,pbad 11 (f11 () hlu (by omega))⟩
 rw[qc,ku] at hz4;try simp only[nc] at *
 have hszm:¬most<SZ:=by omega
 cbv;rw[ewb,enp,ewn];refine⟨⟨hBT0⟩,?_⟩
 rcases(show K=2∨K=3 by omega) with hK|hK
 ·have eK0:vc .eql K 0=false:=by rw[qc,kx];omega
  have eK1:vc .eql K 1=false:=by rw[qc,kx];omega
  have eK2:vc .eql K 2=true:=by rw[qc,kF];omega
  rw[eK0];cbv;rw[eK1];cbv

  try simp only[nc] at *
  have hBB:BH=NP:=by rw[hBH ()];rw[if_neg (by omega),if_neg (by omega)]
  obtain⟨uI,huI⟩:∃uI,uI=US+NP:=⟨_,rfl⟩;have euI:vb .add .i64 US NP=uI:=by rw[qb,kh (by omega) (by omega),huI]
  replace f10b:=f10b () hlu hszm
  replace fB:=fB () hlu hszm
  rw[hBB] at f10b fB;rw[←huI] at f10b fB;rw[ebl,euI];generalize hz5:vc .lss bI uI=z5;cases z5
  rotate_left
  ·rw[qc,kf] at hz5;cbv;exact⟨[0,1],.tup [.val (.slice none 0 0),.val (.slice none 0 0),.lit .i64 0,.lit .i64 10],[.ro .u8 b,.ro .u8 w],rfl,rfl,rfl,rfl,⟨rfl,rfl,trivial⟩,rfl,pbad 10 (f10b (by omega))⟩
  rw[qc,ke] at hz5;try simp only[nc] at *
  have fB:=fB hz5;clear f10b;obtain⟨nN,hnN⟩:∃nN:Nat,NP=(nN:Int):=⟨(NP:Int).toNat,by omega⟩;have htB:(NP:Int).toNat=nN:=by rw[hnN];exact Int.toNat_natCast nN
  rw[htB] at fB;have htU:vtoN US=uN:=by rw[qtoN,hUS];exact Int.toNat_natCast uN
  obtain⟨eN,heN⟩:∃eN:Nat,eN=uN+nN:=⟨_,rfl⟩;have hue:uI=(eN:Int):=by omega
  have htu:vtoN uI=eN:=by rw[qtoN,hue];exact Int.toNat_natCast eN
  have hsb:vsubN eN uN=nN:=by rw[qsubN];simp only;omega
  obtain⟨o1,ho1⟩:∃o1,o1=vcutN 0 uN eN:=⟨_,rfl⟩;have ho:o1=uN∨nN=0∧o1≤bl:=by
   have e:o1=if eN=uN then 0 else 0+uN:=by rw[ho1,qcutN]
   by_cases h:eN=uN
   ·rw[if_pos h] at e;right;constructor<;>omega
   ·rw[if_neg h] at e;left;omega
  have hebl:eN≤bl:=by omega
  have hsl:=hseg uN nN (by omega);have hv1:=hvs uN nN o1 (by omega) ho;have hsm1:=hsm uN nN;have hsd1:=hsegd uN nN;generalize hsg:SG uN nN=sg at *

  have fBn:rdw sg=none→X=.bad 11:=fun h=>by rw[fB];unfold kaz;rw[if_neg (by omega),if_neg (by omega),if_pos hK,h]
  have fBl:∀l,rdw sg=some l→X=owned l uI (qa l (sg.drop (1+hnW sg).toNat) SZ RW):=fun l h=>by rw[fB];unfold kaz;rw[if_neg (by omega),if_neg (by omega),if_pos hK,h]
  clear fB;have hrd:=hrdA sg nN hsm1 (by omega) (by omega) (by omega);have hspec:=fun l (h:rdw sg=some l)=>koJ h
  have hnn:=kqL (kaj hsm1);have hvd:=fun h x hh hx=>@kgp b uN nN h x (by omega) hh hx
  rw[hSG,hsg,hbl'] at hvd;have hu8:=fun l h=>@kqK 256 sg l (kaj hsm1) h
  have hsh:∀h:¬jR sg,1+hnW sg≤nN:=by
   intro h;unfold jR at h;rw[hsl] at h;by_cases h2:(nN:Int)-1<hnW sg
   ·exact(h (.inr h2)).elim
   ·omega
  obtain⟨hI,hhI⟩:∃hI,hI=1+hnW sg:=⟨_,rfl⟩;rw[←hhI] at fBl hrd hsh;obtain⟨hN,hhN⟩:∃hN:Nat,hI=hN:=⟨hI.toNat,by omega⟩;have hthN:hI.toNat=hN:=by rw[hhN];exact Int.toNat_natCast hN
  rw[hthN] at fBl;rw[hsl] at hrd;generalize hRDW:rdw sg=RDW at *;cbv;rw[htU,htu,←ho1,hsb];refine⟨⟨by((try simp only[nc] at *);omega),by((try simp only[nc] at *);omega)⟩,⟨by((try simp only[nc] at *);omega),by((try simp only[nc] at *);omega)⟩,⟨by((try simp only[nc] at *);omega),by((try simp only[nc] at *);omega)⟩,?_⟩
  rw[eK0];cbv;rw[eK1];cbv;rw[eK2];cbv;refine ka (ρ:=[(0,.n o1)]) hrd ⟨by rfl,by rfl,by rfl,by cbv;exact⟨hv1,trivial⟩⟩ ?_
  rintro v H R js4 ⟨rfl,⟨e,he,hr4,rfl,rfl⟩|⟨l,c3,hr4,rfl,rfl⟩⟩
  ·have ez:vc .neq e 0=true:=by rw[qc,jl];exact he
   cbv;rw[ez];cbv;exact⟨[0,1],.tup [.val (.slice none 0 0),.val (.slice none 0 0),.lit .i64 0,.lit .i64 11],[.ro .u8 b,.ro .u8 w],rfl,rfl,rfl,rfl,⟨rfl,rfl,trivial⟩,rfl,pbad 11 (fBn hr4)⟩
  try simp only[nc] at *
  obtain⟨hs1,hs2⟩:=hspec l hr4;have hh:=hsh hs1;obtain⟨hlu8,hl256,_⟩:=hu8 l hs2;obtain⟨o2,ho2⟩:∃o2,o2=vcutN o1 hN nN:=⟨_,rfl⟩;obtain⟨m2,hm2⟩:∃m2,m2=vsubN nN hN:=⟨_,rfl⟩;have hm2':m2=nN-hN:=by rw[hm2,qsubN]
  have ho2':o2=uN+hN∨hN=nN∧o2≤bl:=by
   have e:o2=if nN=hN then o1 else o1+hN:=by rw[ho2,qcutN]
   by_cases h:nN=hN
   ·rw[if_pos h] at e;right;constructor<;>omega
   ·rw[if_neg h] at e;left;rcases ho with h'|⟨h',_⟩<;>omega
  have hv2:=hvd hN o2 (by omega) ho2';have hd2l:(sg.drop hN).length=m2:=by rw[List.length_drop,hsl,hm2']
  have hrows:=hrowsA l (sg.drop hN) c3 m2 SZ RW hlu8 (by omega) (fun c hc=>hsm1 c (List.mem_of_mem_drop hc)) (by rw[hd2l];omega) (by rw[hd2l];omega) (by omega) ⟨hsz0,by omega⟩;rw[hd2l] at hrows;have fC:=fBl l hr4;clear fBl fBn;generalize qa l (sg.drop hN) SZ RW=RR at *;generalize sg.drop hN=sg2 at *;obtain⟨ln,hln⟩:∃ln,ln=l.length:=⟨_,rfl⟩;rw[←hln] at hrows hl256 ⊢
  have htI:vtoN hI=hN:=by rw[qtoN,hhN];exact Int.toNat_natCast hN
  have ez:vc .neq 0 0=false:=by rw[qc];rfl
  clear hs2 hs1 hu8 hspec;cbv;rw[ez];cbv;rw[htI,←ho2,←hm2];refine⟨⟨by((try simp only[nc] at *);omega),by((try simp only[nc] at *);omega)⟩,?_⟩
  refine ka (ρ:=[(3,.z),(0,.n o2)]) hrows ⟨by rfl,by rfl,by rfl,by cbv;exact⟨kb _,hv2,trivial⟩⟩ ?_
  rintro v H R js5 ⟨rfl,⟨e,he,hr5,rfl,rfl⟩|⟨L,c5,hr5,rfl,rfl,hLc5⟩⟩
  ·have ez:vc .neq e 0=true:=by rw[qc,jl];exact he
   cbv;rw[ez];cbv;exact⟨[0,1],.tup [.val (.slice none 0 0),.val (.slice none 0 0),.lit .i64 0,.lit .i64 11],[.ro .u8 b,.ro .u8 w],rfl,rfl,rfl,rfl,⟨rfl,rfl,trivial⟩,rfl,pbad 11 (by rw[fC,hr5];rfl)⟩
  ·obtain⟨Ln,hLn⟩:∃Ln,Ln=L.length:=⟨_,rfl⟩;have ez':vc .neq 0 0=false:=by rw[qc];rfl
   rw[←hLn];cbv;rw[ez'];cbv;subst hLn;subst hln;exact⟨[0,1,4,3],.tup [.slice 2 .z 1 L.length c5,.slice 3 .z 1 l.length c3,.int .i64 uI,.lit .i64 0],[.ro .u8 b,.ro .u8 w,.buf 5 .u8 L c5,.buf 5 .u8 l c3],rfl,rfl,rfl,rfl,⟨rfl,rfl,rfl,rfl,trivial⟩,rfl,pown L l uI c5 c3 hLc5 (by rw[fC,hr5];rfl)⟩
 ·have eK0:vc .eql K 0=false:=by rw[qc,kx];omega
  have eK1:vc .eql K 1=false:=by rw[qc,kx];omega
  have eK2:vc .eql K 2=false:=by rw[qc,kx];omega
  rw[eK0];cbv;rw[eK1];cbv

  try simp only[nc] at *
  have hBB:BH=NP:=by rw[hBH ()];rw[if_neg (by omega),if_neg (by omega)]
  obtain⟨uI,huI⟩:∃uI,uI=US+NP:=⟨_,rfl⟩;have euI:vb .add .i64 US NP=uI:=by rw[qb,kh (by omega) (by omega),huI]
  replace f10b:=f10b () hlu hszm
  replace fB:=fB () hlu hszm
  rw[hBB] at f10b fB;rw[←huI] at f10b fB;rw[ebl,euI];generalize hz5:vc .lss bI uI=z5;cases z5
  rotate_left
  ·rw[qc,kf] at hz5;cbv;exact⟨[0,1],.tup [.val (.slice none 0 0),.val (.slice none 0 0),.lit .i64 0,.lit .i64 10],[.ro .u8 b,.ro .u8 w],rfl,rfl,rfl,rfl,⟨rfl,rfl,trivial⟩,rfl,pbad 10 (f10b (by omega))⟩
  rw[qc,ke] at hz5;try simp only[nc] at *
  have fB:=fB hz5;clear f10b;obtain⟨nN,hnN⟩:∃nN:Nat,NP=(nN:Int):=⟨(NP:Int).toNat,by omega⟩;have htB:(NP:Int).toNat=nN:=by rw[hnN];exact Int.toNat_natCast nN
  rw[htB] at fB;have htU:vtoN US=uN:=by rw[qtoN,hUS];exact Int.toNat_natCast uN
  obtain⟨eN,heN⟩:∃eN:Nat,eN=uN+nN:=⟨_,rfl⟩;have hue:uI=(eN:Int):=by omega
  have htu:vtoN uI=eN:=by rw[qtoN,hue];exact Int.toNat_natCast eN
  have hsb:vsubN eN uN=nN:=by rw[qsubN];simp only;omega
  obtain⟨o1,ho1⟩:∃o1,o1=vcutN 0 uN eN:=⟨_,rfl⟩;have ho:o1=uN∨nN=0∧o1≤bl:=by
   have e:o1=if eN=uN then 0 else 0+uN:=by rw[ho1,qcutN]
   by_cases h:eN=uN
   ·rw[if_pos h] at e;right;constructor<;>omega
   ·rw[if_neg h] at e;left;omega
  have hebl:eN≤bl:=by omega
  have hsl:=hseg uN nN (by omega);have hv1:=hvs uN nN o1 (by omega) ho;have hsm1:=hsm uN nN;have hsd1:=hsegd uN nN;generalize hsg:SG uN nN=sg at *

  have fC:X=kept uI (qa w sg SZ RW):=by rw[fB];unfold kaz;rw[if_neg (by omega),if_neg (by omega),if_neg (by omega)]
  clear fB;have hrows:=hrowsA w sg cap2 nN SZ RW hw8 (by omega) hsm1 (by omega) (by omega) (by omega) ⟨hsz0,by omega⟩;rw[hwl',hsl] at hrows;generalize qa w sg SZ RW=RR at *;cbv;rw[htU,htu,←ho1,hsb];refine⟨⟨by((try simp only[nc] at *);omega),by((try simp only[nc] at *);omega)⟩,⟨by((try simp only[nc] at *);omega),by((try simp only[nc] at *);omega)⟩,⟨by((try simp only[nc] at *);omega),by((try simp only[nc] at *);omega)⟩,?_⟩
  rw[eK0];cbv;rw[eK1];cbv;rw[eK2];cbv;refine ka (ρ:=[(1,.z),(0,.n o1)]) hrows ⟨by rfl,by rfl,by rfl,by cbv;exact⟨kb _,hv1,trivial⟩⟩ ?_
  rintro v H R js5 ⟨rfl,⟨e,he,hr5,rfl,rfl⟩|⟨L,c5,hr5,rfl,rfl,hLc5⟩⟩
  ·have ez:vc .neq e 0=true:=by rw[qc,jl];exact he
   cbv;rw[ez];cbv;exact⟨[0,1],.tup [.val (.slice none 0 0),.val (.slice none 0 0),.lit .i64 0,.lit .i64 11],[.ro .u8 b,.ro .u8 w],rfl,rfl,rfl,rfl,⟨rfl,rfl,trivial⟩,rfl,pbad 11 (by rw[fC,hr5];rfl)⟩
  ·obtain⟨Ln,hLn⟩:∃Ln,Ln=L.length:=⟨_,rfl⟩;have ez':vc .neq 0 0=false:=by rw[qc];rfl
   rw[←hLn];cbv;rw[ez'];cbv;subst hLn;exact⟨[0,1,3],.tup [.slice 2 .z 1 L.length c5,.slice 1 .z 1 wl cap2,.int .i64 uI,.lit .i64 0],[.ro .u8 b,.ro .u8 w,.buf 5 .u8 L c5],rfl,rfl,rfl,rfl,⟨rfl,rfl,rfl,trivial⟩,rfl,pkeep L uI c5 hLc5 (by rw[fC,hr5];rfl)⟩
theorem kb6 (b w:List Int) (cap cap2:Nat) (most:Int) (hb:∀c∈b,kv c) (hw8:∀c∈w,kv c) (hbl:b.length≤140737488355328) (hwl:w.length≤140737488355328) (hcap:b.length≤cap) :
  Con Try.prog 23 [.slice 0 .z 1 b.length cap,.slice 1 .z 1 w.length cap2,.int .i64 most] [.ro .u8 b,.ro .u8 w] (fun v H R=>R=[]∧PRd b w cap2 (RdL b w most) v H):=by
 obtain⟨f2,f10,_⟩:=qR b w most;by_cases hmo:most<0∨131072<most
 ·rw[f2 hmo];refine kj (kA 2 (by simp) (km (kg kr knZ ?_)))
  intro vb vc vw vtoN vofN vaddN vsubN vmaxI vminI vcutN vgd vst vln vrep vsub vonto vsplice vstrEq vbyteV vnotB veqB hw qb qc qw qtoN qofN qaddN qsubN qmaxI qminI qcutN qgd qst qln qrep qsub qonto qsplice qstrEq qbyteV qnotB qeqB;have hm:=kr;generalize Try.prog=P at *;clear f2 f10;generalize b.length=bl at *;generalize w.length=wl at *;cbv;generalize hz1:vc .lss most 0=z1;cases z1
  rotate_left
  ·cbv
  rw[qc,ke] at hz1;have em2:vc .gtr most 131072=true:=by rw[qc,kz];omega
  cbv;rw[em2];cbv
 by_cases hb0:b.length=0
 ·rw[f10 hmo hb0];refine kj (kA 2 (by simp) (km (kg kr knZ ?_)))
  intro _ vc _ _ vofN _ _ _ _ _ _ _ _ _ _ _ _ _ _ _ _ _ _ qc _ _ qofN _ _ _ _ _ _ _ _ _ _ _ _ _ _ _ _;have hm:=kr;generalize Try.prog=P at *;clear f2 f10;generalize b.length=bl at *;generalize w.length=wl at *;subst hb0;have em1:vc .lss most 0=false:=by rw[qc,ke];omega
  have em2:vc .gtr most 131072=false:=by rw[qc,ku];omega
  have e:vc .eql (vofN 0) 0=true:=by rw[qc,qofN];rfl
  cbv;rw[em1];cbv;rw[em2];cbv;rw[e];cbv
 by_cases hk:kdH b<2
 ·exact kqZ b w cap cap2 most hb hw8 hbl hwl hcap hk hb0 hmo
 ·exact kq0 b w cap cap2 most hb hw8 hbl hwl hcap hk hb0 hmo
def ke8 (n:Nat):List SV→List SV
 |[]=>[]
 |v::l=>(if isNil v then .slice n .z 1 0 0 else v)::ke8 n l
theorem kdE (σ:Names) (n:Nat):∀l:List SV,denL (more σ n none) (ke8 n l)=denL (more σ n none) l
 |[]=>rfl
 | v::l=>by
  simp only[ke8,denL,kdE σ n l];split
  ·rename_i h;rw[kdb h,kht]
  ·rfl
theorem kcp {P:Program} {f:Nat} {args:List SV} {s:SS} {K:SV→SS→Prop} {X:XE→SS→Prop} (t:Nat) (k:IntKind) (hsc:scS s True) (hsa:scL s.h.length args=true)
  (h:CallX P f (ke8 s.h.length args) (alloc (.buf t k [] 0) s) K X):CallX P f args s K X:=by
 refine⟨h.go,fun σ w hok=>?_⟩
 obtain⟨h1,h2,h3⟩:=hok.new (B:=.buf t k [] 0) (p:=none) hsc ⟨Nat.le_refl _,rfl,rfl,rfl,fun _ _=>rfl⟩ (fun q hq=>by cases hq) (.inl ⟨rfl,rfl,rfl⟩);have:=h.out _ w h1;rw[q6 hok h1 h2,kdE,sc_denL (fun i hi=>jo hi) args hsa] at this;refine this.mono ?_
 rintro e w' ⟨σ',s',k1,k2,k3,k4⟩;exact⟨σ',s',k1,h2.trans k2,k3.trans h3,k4⟩
theorem rd1:RdL [24,97,98,99] [] 9=.keep [97,98,99] 4:=by
 have k:kdH [24,97,98,99]=0:=rfl;have u:usH [24,97,98,99]=1:=rfl;have z:szH [24,97,98,99]=3:=rfl;have bb:bhH [24,97,98,99]=3:=rfl;unfold RdL kaz;rw[k,u,z,bb];rfl
theorem rd2:RdL [41,97] [] 9=.rep 97 5 2:=by
 have k:kdH [41,97]=1:=rfl;have u:usH [41,97]=1:=rfl;have z:szH [41,97]=5:=rfl;have bb:bhH [41,97]=1:=rfl;unfold RdL kaz;rw[k,u,z,bb];rfl
theorem rd3:RdL [24,97,98] [] 9=.bad 10:=by
 have k:kdH [24,97,98]=0:=rfl;have u:usH [24,97,98]=1:=rfl;have z:szH [24,97,98]=3:=rfl;have bb:bhH [24,97,98]=3:=rfl;unfold RdL;rw[u,z,bb];rfl
theorem u8s (l:List Int) (h:l.all (fun c=>decide (0≤c∧c≤255))=true):∀c∈l,kv c:=fun c hc=>by
 have:=List.all_eq_true.1 h c hc;unfold kv;exact of_decide_eq_true this
theorem kjL:Con Try.prog 22 [] [] (fun v H R=>v=.bool true∧H=[]∧R=[]):=by
 have h1:=fun cap cap2 h=>kb6 [24,97,98,99] [] cap cap2 9 (u8s _ rfl) (u8s _ rfl) (by decide) (by decide) h
 have h2:=fun cap cap2 h=>kb6 [41,97] [] cap cap2 9 (u8s _ rfl) (u8s _ rfl) (by decide) (by decide) h
 have h3:=fun cap cap2 h=>kb6 [24,97,98] [] cap cap2 9 (u8s _ rfl) (u8s _ rfl) (by decide) (by decide) h
 simp only[rd1,PRd,List.length_cons,List.length_nil] at h1;simp only[rd2,PRd,List.length_cons,List.length_nil] at h2;simp only[rd3,PRd,List.length_cons,List.length_nil] at h3;have f9:=knZ;refine kj (kA 0 (by simp) (km (kg kr krX ?_)))
 intro _ vc _ _ _ vaddN _ _ _ _ _ _ vln _ vsub _ _ vstrEq _ _ _ _ _ qc _ _ _ qaddN _ _ _ _ _ _ qln _ qsub _ _ qstrEq _ _ _;have hm:=kr;generalize Try.prog=P at *;have hstr:∀l,vstrEq l l=true:=fun l=>by rw[qstrEq];simp
 have ha0:∀n,vaddN 0 n=n:=fun n=>by simp only[qaddN,Nat.zero_add]
 have hlnq:∀l,vln l=l.length:=fun l=>by simp only[qln]
 have hsubq:∀(l:List Int) q,vsub l 0 q=l.take q:=fun l q=>by simp only[qsub,List.drop_zero]
 have e00:vc .eql 0 0=true:=by rw[qc];rfl
 have e44:vc .eql 4 4=true:=by rw[qc];rfl
 have e22:vc .eql 2 2=true:=by rw[qc];rfl
 have e10:vc .eql 10 10=true:=by rw[qc];rfl
 have hsx:vsub [97,98,99] 0 3=[97,98,99]:=by rw[hsubq];rfl
 cbv;refine kcp 5 .u8 (by cbv) (by rfl) ?_
 refine ka (ρ:=[(0,.z),(1,.z)]) (h1 4 0 (by decide)) ⟨by rfl,by rfl,by rfl,by cbv;exact⟨kb _,kb _,trivial⟩⟩ ?_
 rintro v H R js ⟨rfl,c1,_,rfl,rfl⟩;cbv;refine kcp 5 .u8 (by cbv;try exact⟨fun _=>rfl,trivial⟩) (by rfl) ?_
 refine ka (ρ:=[(3,.z),(4,.z)]) (h2 2 0 (by decide)) ⟨by rfl,by rfl,by rfl,by cbv;exact⟨kb _,kb _,trivial⟩⟩ ?_
 rintro v H R js2 ⟨rfl,L,c2,_,hL1,hL2,rfl,rfl⟩;have hsl:vsub L 0 5=[97,97,97,97,97]:=by rw[hsubq,hL2];rfl
 cbv;refine kcp 5 .u8 (by cbv;try exact⟨fun _=>rfl,trivial⟩) (by rfl) ?_
 refine ka (ρ:=[(6,.z),(7,.z)]) (h3 3 0 (by decide)) ⟨by rfl,by rfl,by rfl,by cbv;exact⟨kb _,kb _,trivial⟩⟩ ?_
 rintro v H R js3 ⟨rfl,rfl,rfl⟩;cbv;rw[e00];cbv;refine⟨⟨by rw[ha0,hlnq];decide⟩,?_⟩
 rw[hsx,hstr];cbv;rw[e44];cbv;rw[e00];cbv;refine⟨⟨by rw[ha0,hlnq];exact hL1⟩,?_⟩
 rw[hsl,hstr];cbv;rw[e22];cbv;rw[e10];cbv
set_option maxRecDepth 100000
theorem keP (lits w d:List Int) (c0 cw cd K:Nat) (hl8:∀c∈lits,kv c) (hw8:∀c∈w,kv c) (hd8:∀c∈d,kv c) (hN:lits.length≤131072) (hc0:lits.length≤c0) (hwl:w.length≤140737488355328) (hdl:d.length≤129) (hK:2≤K∧K<4) :
    Con Try.prog 53 [.slice 0 .z 1 lits.length c0,.slice 1 .z 1 w.length cw,.slice 2 .z 1 d.length cd,.int .i64 (K:Int)] [.ro .u8 lits,.ro .u8 w,.ro .u8 d] (fun v H R=>R=[] ∧
      ((v=.val (.slice none 0 0)∧H=[.ro .u8 lits,.ro .u8 w,.ro .u8 d]) ∨
       ∃b c',SecOk w d lits K b∧b.length≤c'∧v=.slice 3 .z 1 b.length c'∧H=[.ro .u8 lits,.ro .u8 w,.ro .u8 d,.buf 5 .u8 b c'])):=by
  by_cases h:lits.length<256
  · exact kkE lits w d c0 cw cd K hl8 hw8 hd8 h hwl hdl hK
  · exact kkF lits w d c0 cw cd K hl8 hw8 hd8 (by omega) hN hc0 hwl hdl hK
theorem kgj (K N:Nat) (hK:K<2) (hN:N≤131072) :
    Con Try.prog 50 [.int .u8 (K:Int),.int .i64 (N:Int)] [] (fun v H R=>R=[]∧∃hd c' n',PlH hd K N∧n'=hd.length∧n'≤c'∧v=.slice 0 .z 1 n' c'∧H=[.buf 5 .u8 hd c']):=by
  by_cases h1:N<32
  · refine kiT 0 ((kmS K N (by omega) h1).mono ?_)
    rintro v H R ⟨rfl,rfl,rfl⟩;exact⟨rfl,_,1,1,kqM K N hK h1,rfl,Nat.le_refl _,rfl,rfl⟩
  by_cases h2:N<4096
  · refine(kkD K N (by omega) ⟨by omega,h2⟩).mono ?_
    rintro v H R ⟨rfl,c',hc,rfl,rfl⟩;exact⟨rfl,_,c',2,kpG K N hK h2,by rw[kT],hc,rfl,rfl⟩
  · refine(kmT K N (by omega) ⟨by omega,hN⟩).mono ?_
    rintro v H R ⟨rfl,c',hc,rfl,rfl⟩;exact⟨rfl,_,c',3,kqN K N hK hN,by rw[kT],hc,rfl,rfl⟩
theorem SecOk.pos {w d lits b:List Int} {K:Nat} (h:SecOk w d lits K b):0<b.length:=by
  obtain⟨hd,body,S,rfl,h1,_⟩:=h;have:=h1.1;rw[List.length_append];omega
def khQ (f:Bool) (w lits b nxt:List Int):Prop:=kaS f w lits b nxt∧b.length≤lits.length+3∧(∀c∈b,kv c)∧∀c∈nxt,kv c
theorem kq1 {w lits hd:List Int} (hw:∀c∈w,kv c) (hl:∀c∈lits,kv c) (h:PlH hd 0 lits.length):khQ false w lits (hd++lits) w:=by
  refine⟨kmU w h,by have:=h.2.1;rw[List.length_append];omega,fun c hc=>?_,hw⟩
  rcases List.mem_append.1 hc with hc|hc
  · exact h.2.2.1 c hc
  · exact hl c hc
theorem kq2 {w lits hd:List Int} {x:Int} (hw:∀c∈w,kv c) (h:PlH hd 1 lits.length) (hx:kv x) (hl0:1≤lits.length) (hl:∀c∈lits,c=x):khQ false w lits (hd++[x]) w:=by
  refine⟨kmV w h (List.eq_replicate_iff.2 ⟨rfl,hl⟩),by have:=h.2.1;rw[List.length_append];simp only[List.length_cons,List.length_nil];omega,fun c hc=>?_,hw⟩
  rcases List.mem_append.1 hc with hc|hc
  · exact h.2.2.1 c hc
  · rw[List.mem_singleton.1 hc];exact hx
theorem kpT {w lits b:List Int} (hw:∀c∈w,kv c) (h:SecOk w [] lits 3 b) (hb:b.length≤lits.length+3):khQ false w lits b w:=by
  obtain⟨hd,body,S,rfl,h1,h2,h3⟩:=h;exact⟨kmW h1 h2,hb,h3,hw⟩
theorem kpU {w l d lits b:List Int} (hl:∀c∈l,kv c) (hd:kb1 l d) (h:SecOk l d lits 2 b) (hb:b.length≤lits.length+3):khQ true w lits b l:=by
  obtain⟨hd,body,S,rfl,h1,h2,h3⟩:=h;exact⟨kmX h1 (by assumption) h2,hb,h3,hl⟩
theorem khR (lits w:List Int) (c0 cw:Nat) (hN:131072<lits.length) (hN2:lits.length≤140737488355328) :
    Con Try.prog 21 [.slice 0 .z 1 lits.length c0,.slice 1 .z 1 w.length cw] [.ro .u8 lits,.ro .u8 w] (fun v H R=>R=[]∧v=.tup [.val (.slice none 0 0),.val (.slice none 0 0),.int .i64 3]∧H=[.ro .u8 lits,.ro .u8 w]):=by
  generalize hNn:lits.length=N at *;refine kj (kA 2 (by simp) (km (kg kr krg ?_)))
  intro _ vc _ _ vofN _ _ _ _ _ _ _ _ _ _ _ _ _ _ _ _ _ _ qc _ _ qofN _ _ _ _ _ _ _ _ _ _ _ _ _ _ _ _;have hm:=kr;generalize Try.prog=P at *;have hlt:vc .gtr (vofN N) 131072=true:=by rw[qc,kz,qofN];simp only[];omega
  generalize w.length=wn at *;cbv;rw[hlt];cbv
theorem kjM (lits w:List Int) (c0 cw:Nat) (hl8:∀c∈lits,kv c) (hw8:∀c∈w,kv c) (hN:lits.length≤131072) (hc0:lits.length≤c0) (hwl:w.length≤140737488355328) :
    Con Try.prog 21 [.slice 0 .z 1 lits.length c0,.slice 1 .z 1 w.length cw] [.ro .u8 lits,.ro .u8 w] (fun v H R=>R=[]∧∃b nxt c',b.length≤c' ∧
      ((khQ false w lits b nxt∧nxt=w∧v=.tup [.slice 2 .z 1 b.length c',.slice 1 .z 1 w.length cw,.int .i64 0]∧H=[.ro .u8 lits,.ro .u8 w,.buf 5 .u8 b c']) ∨
       (khQ true w lits b nxt∧v=.tup [.slice 2 .z 1 b.length c',.slice 3 .z 1 nxt.length nxt.length,.int .i64 0]∧H=[.ro .u8 lits,.ro .u8 w,.buf 5 .u8 b c',.ints 5 .u8 nxt]))):=by
  obtain⟨N,hNn⟩:∃N,lits.length=N:=⟨_,rfl⟩;have hh0:=kgj 0 N (by decide) (by omega);have hh1:=kgj 1 N (by decide) (by omega);have hraw:=fun(hd:List Int)=>@kq1 w lits hd hw8 hl8
  have hrep:=fun(hd:List Int) (x:Int)=>@kq2 w lits hd x hw8
  have hs3:=fun(b:List Int)=>@kpT w lits b hw8
  have hs2:=fun(l d b:List Int)=>@kpU w l d lits b
  have hcnt:=fun c1 c2 h0=>kjK lits c1 c2 h0 (by omega)
  have hcall:=koV (lits.getD 0 0) lits (fun x hx=>hl8 x hx) (jm hl8 0);have hx0:=jm hl8 0;have hsec3:=fun cd=>keP lits w [] c0 cw cd 3 hl8 hw8 (by simp) hN hc0 hwl (by decide) (by decide)
  have hown:=fun cap=>knf lits cap (kaj hl8) hN
  have hsec2:=fun(l d:List Int) (cl cd:Nat) (h1:∀c∈l,kv c) (h2:∀c∈d,kv c) (h3:l.length≤256) (h4:d.length≤129)=>keP lits l d c0 cl cd 2 hl8 h1 h2 hN hc0 (by omega) h4 (by decide)
  have hwcode:=fun(l:List Int) (h1:∀c∈l,kv c) (h2:l.length≤256)=>khP l l.length h1 (by omega)
  have hwok:=fun(l:List Int) (M:Nat) (h1:∀c∈l,kv c) (h2:Wt l M)=>kjG l l.length M h1 h2 (Nat.le_refl _)
  have f51:=kr4;rw[hNn] at hN hc0 hraw hrep hcnt hcall hsec3 hown hsec2 hs3 ⊢
  generalize hWOe:khQ false w lits=WO at *;generalize hWOf:khQ true w lits=WOT at *;generalize hwn:w.length=wn at *;obtain⟨nI,hnI⟩:∃x:Int,x=N:=⟨_,rfl⟩;refine kj (kG (km (kg kr krg ?_)))
  intro _ vc _ _ vofN vaddN _ _ _ _ vgd _ vln _ vsub vonto _ _ _ _ _ hw _ qc _ _ qofN qaddN _ _ _ _ qgd _ qln _ qsub qonto _ _ _ _ _;have hm:=kr;generalize Try.prog=P at *;have hadd0:∀i,vaddN 0 i=i:=fun i=>by simp only[qaddN,Nat.zero_add]
  have en:vofN N=nI:=by rw[qofN,hnI]
  have hlong:vc .gtr nI 131072=false:=by rw[qc,ku];omega
  have hll:vln lits=N:=by rw[qln];exact hNn
  rw[show((N:Nat):Int)=nI from hnI.symm] at hh0 hh1;cbv;rw[en,hlong];cbv;rw[en];refine ka (ρ:=[]) hh0 ⟨by rfl,by rfl,by rfl,by cbv⟩ ?_
  rintro v H R js ⟨rfl,hd,ch,hn,hpl,hhn,hhc,rfl,rfl⟩;have hraw:=hraw hd hpl;obtain⟨b0,hb0⟩:∃x,x=hd++lits:=⟨_,rfl⟩;obtain⟨n0,hn0⟩:∃x,x=hn+N:=⟨_,rfl⟩;have hb0l:b0.length=n0:=by rw[hb0,List.length_append,←hhn,hNn,hn0]
  rw[←hb0] at hraw;have hlh:vln hd=hn:=by rw[qln,hhn]
  have ha0:vaddN hn N=n0:=by rw[qaddN,hn0]
  have hont0:vonto hd hn (vsub lits 0 N)=b0:=by
    have e1:hd.take hn=hd:=by rw[hhn];exact List.take_length
    have e2:lits.take N=lits:=by rw[←hNn];exact List.take_length
    rw[qonto,qsub,hb0];simp[e1,e2]
  have hn0l:n0≤200000:=by have:=hpl.2.1;omega
  have hn03:n0≤N+3:=by have:=hpl.2.1;omega
  clear hpl;cbv;refine⟨⟨by rw[hadd0,hll];exact Nat.le_refl _⟩,⟨by rw[hlh];exact Nat.le_refl _⟩,⟨Nat.le_refl _⟩,⟨by rw[ha0];((try simp only[nc] at *);omega)⟩,?_⟩
  intro cb jv hle;have hcb:n0≤cb:=by have:=hle.out;simp only at this;rw[ha0] at this;exact this
  by_cases hN0:N=0
  · have hg:vc .gtr nI 0=false:=by rw[qc,ku];((try simp only[nc] at *);omega)
    have hl:vc .lss nI 32=true:=by rw[qc,kf];((try simp only[nc] at *);omega)
    clear hh1 hrep hs3 hs2 hcnt hcall hsec3 hown hsec2 hwcode hwok hh0;cbv;rw[hont0,ha0,en,hg];cbv;rw[en,hl];cbv;subst hb0l;exact⟨[0,1,4],.tup [.slice 2 .z 1 b0.length cb,.slice 1 .z 1 wn cw,.lit .i64 0],[.ro .u8 lits,.ro .u8 w,.buf 5 .u8 b0 cb],rfl,rfl,rfl,rfl,⟨rfl,rfl,rfl,trivial⟩,rfl,b0,w,cb,hcb,.inl ⟨hraw,rfl,rfl,rfl⟩⟩
  · have hg : vc .gtr nI 0=true:=by rw[qc,kz];((try simp only[nc] at *);omega)
    have hN1:0<N:=by omega
    have hcnt:=fun c1 c2=>hcnt c1 c2 hN1
    have hcN:0≤(1:Int)∧(1:Int)≤(c0:Int):=by omega
    cbv;rw[hont0,ha0,en,hg];cbv;refine⟨⟨hcN⟩,?_⟩
    refine ka (ρ:=[(0,.z)]) (hcnt c0 c0) ⟨by rfl,by rfl,by rfl,by cbv;(repeat' first|(refine And.intro ?_ ?_)|exact trivial|exact⟨Nat.le_refl _⟩|exact kb _|exact fun _=>rfl|(simp only[renL3];done)|(show SB.roA _ _ _=SB.roA _ _ _;rfl)|exact funext fun _=>rfl)⟩ ?_
    rintro v H R js ⟨⟨r,rfl,hr0,hrN,hrC⟩,rfl,rfl⟩;clear hh0 hcnt;by_cases hall:r=nI
    · have heq:vc .eql r nI=true:=by rw[qc,kF];exact hall
      have hev:∀c∈lits,c=lits.getD 0 0:=hcall.1 (by have h1:=hrC.out;have h2:nI=(N:Int):=hnI;rw[←h1];exact hall.trans h2);obtain⟨x,hx⟩:∃x,x=lits.getD 0 0:=⟨_,rfl⟩;rw[←hx] at hev hx0;have hgx:vgd lits 0=x:=by rw[hx,qgd]
      have hrep:=fun(hd:List Int) h=>hrep hd x h hx0 (by omega) hev
      have ax0:vaddN 0 0=0:=hadd0 0;have hR0:(0:Int)≤0∧(0:Int)<(N:Int):=by omega
      clear hcall hs3 hs2 hsec3 hown hsec2 hwcode hwok hrC;cbv;rw[en,heq];cbv;rw[en,hgx];refine⟨⟨hR0⟩,⟨by rw[ax0,hll];exact hN1⟩,⟨by rw[hll];exact hN1⟩,?_⟩
      refine⟨?_,?_⟩
      · skip
        refine ka (ρ:=[]) hh1 ⟨by rfl,by rfl,by rfl,by cbv⟩ ?_
        rintro v H R js1 ⟨rfl,hd1,ch1,hn1,hpl1,hhn1,hhc1,rfl,rfl⟩;have hrep:=hrep hd1 hpl1;obtain⟨b1,hb1⟩:∃y,y=hd1++[x]:=⟨_,rfl⟩;obtain⟨n1,hn1'⟩:∃y,y=hn1+1:=⟨_,rfl⟩;have hb1l:b1.length=n1:=by rw[hb1,List.length_append,←hhn1,hn1'];rfl
        rw[←hb1] at hrep;have hlh1:vln hd1=hn1:=by rw[qln,hhn1]
        have hlx:vln [x]=1:=by rw[qln];rfl
        have ha1:vaddN hn1 1=n1:=by rw[qaddN,hn1']
        have hont1:vonto hd1 hn1 (vsub [x] 0 1)=b1:=by
          have e1:hd1.take hn1=hd1:=by rw[hhn1];exact List.take_length
          rw[qonto,qsub,hb1];simp[e1]
        have hn1l:n1≤200000:=by have:=hpl1.2.1;omega
        have hlb1:vln b1=n1:=by rw[qln];exact hb1l
        have hpb1:0<n1:=by omega
        clear hpl1 hb1;cbv;refine⟨⟨⟨by rw[hll];exact hN1⟩,by rw[hgx]⟩,?_⟩
        refine⟨⟨by rw[hadd0,hlx];exact Nat.le_refl _⟩,⟨by rw[hlh1];exact Nat.le_refl _⟩,⟨Nat.le_refl _⟩,⟨by rw[ha1];((try simp only[nc] at *);omega)⟩,?_⟩
        intro c1 jv1 hle1;have hcb1:n1≤c1:=by have:=hle1.out;simp only at this;rw[ha1] at this;exact this
        cbv;rw[hont1,ha1];refine jk hw hm f51 (by rfl) ?_
        cbv;refine⟨⟨by rw[hlb1];exact hpb1⟩,?_⟩
        generalize hzr:vc .lss (vofN n1) (vofN n0)=zr;cases zr
        · cbv
          intro jzr;cbv;subst hb0l;exact⟨[0,1,4],.tup [.slice 2 .z 1 b0.length cb,.slice 1 .z 1 wn cw,.lit .i64 0],[.ro .u8 lits,.ro .u8 w,.buf 5 .u8 b0 cb],rfl,rfl,rfl,rfl,⟨rfl,rfl,rfl,trivial⟩,rfl,b0,w,cb,hcb,.inl ⟨hraw,rfl,rfl,rfl⟩⟩
        · rw[qc,kf,qofN] at hzr
          cbv;intro jzr;cbv;subst hb1l;exact⟨[0,1,5],.tup [.slice 2 .z 1 b1.length c1,.slice 1 .z 1 wn cw,.lit .i64 0],[.ro .u8 lits,.ro .u8 w,.buf 5 .u8 b1 c1],rfl,rfl,rfl,rfl,⟨rfl,rfl,rfl,trivial⟩,rfl,b1,w,c1,hcb1,.inl ⟨hrep,rfl,rfl,rfl⟩⟩
      · skip
        cbv;refine ka (ρ:=[]) hh1 ⟨by rfl,by rfl,by rfl,by cbv⟩ ?_
        rintro v H R js1 ⟨rfl,hd1,ch1,hn1,hpl1,hhn1,hhc1,rfl,rfl⟩;have hrep:=hrep hd1 hpl1;obtain⟨b1,hb1⟩:∃y,y=hd1++[x]:=⟨_,rfl⟩;obtain⟨n1,hn1'⟩:∃y,y=hn1+1:=⟨_,rfl⟩;have hb1l:b1.length=n1:=by rw[hb1,List.length_append,←hhn1,hn1'];rfl
        rw[←hb1] at hrep;have hlh1:vln hd1=hn1:=by rw[qln,hhn1]
        have hlx:vln [x]=1:=by rw[qln];rfl
        have ha1:vaddN hn1 1=n1:=by rw[qaddN,hn1']
        have hont1:vonto hd1 hn1 (vsub [x] 0 1)=b1:=by
          have e1:hd1.take hn1=hd1:=by rw[hhn1];exact List.take_length
          rw[qonto,qsub,hb1];simp[e1]
        have hn1l:n1≤200000:=by have:=hpl1.2.1;omega
        have hlb1:vln b1=n1:=by rw[qln];exact hb1l
        have hpb1:0<n1:=by omega
        clear hpl1 hb1;cbv;refine⟨⟨by rw[hadd0,hlx];exact Nat.le_refl _⟩,⟨by rw[hlh1];exact Nat.le_refl _⟩,⟨Nat.le_refl _⟩,⟨by rw[ha1];((try simp only[nc] at *);omega)⟩,?_⟩
        intro c1 jv1 hle1;have hcb1:n1≤c1:=by have:=hle1.out;simp only at this;rw[ha1] at this;exact this
        cbv;rw[hont1,ha1];refine jk hw hm f51 (by rfl) ?_
        cbv;refine⟨⟨by rw[hlb1];exact hpb1⟩,?_⟩
        generalize hzr:vc .lss (vofN n1) (vofN n0)=zr;cases zr
        · cbv
          intro jzr;cbv;subst hb0l;exact⟨[0,1,4],.tup [.slice 2 .z 1 b0.length cb,.slice 1 .z 1 wn cw,.lit .i64 0],[.ro .u8 lits,.ro .u8 w,.buf 5 .u8 b0 cb],rfl,rfl,rfl,rfl,⟨rfl,rfl,rfl,trivial⟩,rfl,b0,w,cb,hcb,.inl ⟨hraw,rfl,rfl,rfl⟩⟩
        · rw[qc,kf,qofN] at hzr
          cbv;intro jzr;cbv;subst hb1l;exact⟨[0,1,6],.tup [.slice 2 .z 1 b1.length c1,.slice 1 .z 1 wn cw,.lit .i64 0],[.ro .u8 lits,.ro .u8 w,.buf 5 .u8 b1 c1],rfl,rfl,rfl,rfl,⟨rfl,rfl,rfl,trivial⟩,rfl,b1,w,c1,hcb1,.inl ⟨hrep,rfl,rfl,rfl⟩⟩
    · have heq : vc .eql r nI=false:=by rw[qc,kx];exact hall
      clear hcall hrep hh1 hrC;cbv;rw[en,heq];cbv;rw[en];by_cases h32:N<32
      · have hl:vc .lss nI 32=true:=by rw[qc,kf];((try simp only[nc] at *);omega)
        rw[hl];cbv;subst hb0l;exact⟨[0,1,4],.tup [.slice 2 .z 1 b0.length cb,.slice 1 .z 1 wn cw,.lit .i64 0],[.ro .u8 lits,.ro .u8 w,.buf 5 .u8 b0 cb],rfl,rfl,rfl,rfl,⟨rfl,rfl,rfl,trivial⟩,rfl,b0,w,cb,hcb,.inl ⟨hraw,rfl,rfl,rfl⟩⟩
      · have hl : vc .lss nI 32=false:=by rw[qc,ke];((try simp only[nc] at *);omega)
        rw[hl];cbv;refine kcp 5 .u8 (by cbv) (by rfl) ?_
        refine ka (ρ:=[(0,.z),(1,.z),(5,.z)]) (hsec3 0) ⟨by rfl,by rfl,by rfl,by cbv;(repeat' first|(refine And.intro ?_ ?_)|exact trivial|exact⟨Nat.le_refl _⟩|exact kb _|exact fun _=>rfl|(simp only[renL3];done)|(show SB.roA _ _ _=SB.roA _ _ _;rfl)|exact funext fun _=>rfl)⟩ ?_
        rintro v H R js1 ⟨rfl,⟨rfl,rfl⟩|⟨b1,c1,hb1,hcb1,rfl,rfl⟩⟩
        · cbv
          refine jk hw hm f51 (by rfl) ?_
          cbv;intro jz;cbv;refine ka (ρ:=[(0,.z)]) (hown c0) ⟨by rfl,by rfl,by rfl,by cbv;(repeat' first|(refine And.intro ?_ ?_)|exact trivial|exact⟨Nat.le_refl _⟩|exact kb _|exact fun _=>rfl|(simp only[renL3];done)|(show SB.roA _ _ _=SB.roA _ _ _;rfl)|exact funext fun _=>rfl)⟩ ?_
          rintro v H R js2 ⟨rfl,⟨rfl,rfl⟩|⟨o,rfl,rfl,ho1,ho2,ho3⟩⟩
          · cbv
            subst hb0l;exact⟨[0,1,4],.tup [.slice 2 .z 1 b0.length cb,.slice 1 .z 1 wn cw,.lit .i64 0],[.ro .u8 lits,.ro .u8 w,.buf 5 .u8 b0 cb],rfl,rfl,rfl,rfl,⟨rfl,rfl,rfl,trivial⟩,rfl,b0,w,cb,hcb,.inl ⟨hraw,rfl,rfl,rfl⟩⟩
          · have ho8:∀c∈o,kv c:=fun c hc=>⟨(ho3 c hc).1,by have:=(ho3 c hc).2;omega⟩
            obtain⟨on,hon⟩:∃y,o.length=y:=⟨_,rfl⟩;by_cases hWt:∃M,Wt o M
            rotate_left
            · have hwc:=hwcode o ho8 ho2 (fun M h=>hWt ⟨M,h⟩)
              rw[hon] at hwc ⊢
              clear hs2 hsec2 hwcode hwok;cbv;refine ka (ρ:=[(6,.z)]) hwc ⟨by rfl,by rfl,by rfl,by cbv;(repeat' first|(refine And.intro ?_ ?_)|exact trivial|exact⟨Nat.le_refl _⟩|exact kb _|exact fun _=>rfl|(simp only[renL3];done)|(show SB.roA _ _ _=SB.roA _ _ _;rfl)|exact funext fun _=>rfl)⟩ ?_
              rintro v H R js3 ⟨rfl,rfl,rfl⟩;cbv;rw[show vc .eql 50 0=false by rw[qc];rfl];cbv;subst hb0l;exact⟨[0,1,4],.tup [.slice 2 .z 1 b0.length cb,.slice 1 .z 1 wn cw,.lit .i64 0],[.ro .u8 lits,.ro .u8 w,.buf 5 .u8 b0 cb],rfl,rfl,rfl,rfl,⟨rfl,rfl,rfl,trivial⟩,rfl,b0,w,cb,hcb,.inl ⟨hraw,rfl,rfl,rfl⟩⟩
            obtain⟨M,hM⟩:=hWt;have hwc:=hwok o M ho8 hM;rw[hon] at hwc ⊢
            clear hwcode hwok hM;cbv;refine ka (ρ:=[(6,.z)]) hwc ⟨by rfl,by rfl,by rfl,by cbv;(repeat' first|(refine And.intro ?_ ?_)|exact trivial|exact⟨Nat.le_refl _⟩|exact kb _|exact fun _=>rfl|(simp only[renL3];done)|(show SB.roA _ _ _=SB.roA _ _ _;rfl)|exact funext fun _=>rfl)⟩ ?_
            rintro v H R js3 ⟨rfl,⟨_,_,rfl,rfl⟩|⟨d,cd,hd,hdc,rfl,rfl⟩⟩
            · clear hs2 hsec2
              cbv;rw[show vc .eql 0 0=true by rw[qc];rfl];cbv;subst hb0l;exact⟨[0,1,4],.tup [.slice 2 .z 1 b0.length cb,.slice 1 .z 1 wn cw,.lit .i64 0],[.ro .u8 lits,.ro .u8 w,.buf 5 .u8 b0 cb],rfl,rfl,rfl,rfl,⟨rfl,rfl,rfl,trivial⟩,rfl,b0,w,cb,hcb,.inl ⟨hraw,rfl,rfl,rfl⟩⟩
            · obtain⟨dn,hdn⟩:∃y,d.length=y:=⟨_,rfl⟩
              have hd0:=hd;obtain⟨hd8,hd1,hd129,_⟩:=hd;have hsx:=hsec2 o d on cd ho8 hd8 ho2 hd129;have hs2x:=hs2 o d;rw[hon,hdn] at hsx;rw[hdn] at hd1 ⊢
              have hld:vln d=dn:=by rw[qln];exact hdn
              clear hs2 hsec2 hd8 hd129;cbv;rw[show vc .eql 0 0=true by rw[qc];rfl];cbv;refine⟨⟨by rw[hld];exact hd1⟩,?_⟩
              refine ka (ρ:=[(0,.z),(6,.z),(7,.z)]) hsx ⟨by rfl,by rfl,by rfl,by cbv;(repeat' first|(refine And.intro ?_ ?_)|exact trivial|exact⟨Nat.le_refl _⟩|exact kb _|exact fun _=>rfl|(simp only[renL3];done)|(show SB.roA _ _ _=SB.roA _ _ _;rfl)|exact funext fun _=>rfl)⟩ ?_
              rintro v H R js4 ⟨rfl,⟨rfl,rfl⟩|⟨b2,c2,hb2,hcb2,rfl,rfl⟩⟩
              · clear hsx hs2x
                cbv;refine jk hw hm f51 (by rfl) ?_
                cbv;intro jz4;cbv;subst hb0l;exact⟨[0,1,4],.tup [.slice 2 .z 1 b0.length cb,.slice 1 .z 1 wn cw,.lit .i64 0],[.ro .u8 lits,.ro .u8 w,.buf 5 .u8 b0 cb],rfl,rfl,rfl,rfl,⟨rfl,rfl,rfl,trivial⟩,rfl,b0,w,cb,hcb,.inl ⟨hraw,rfl,rfl,rfl⟩⟩
              · have hs2y:=hs2x b2 ho8 hd0 hb2
                obtain⟨n2,hn2⟩:∃y,b2.length=y:=⟨_,rfl⟩;have hb2l:=hn2;have hpb2:0<n2:=by have:=hb2.pos;omega
                rw[hn2] at hcb2 hs2y ⊢
                have hlb2:vln b2=n2:=by rw[qln];exact hn2
                clear hb2 hsx hs2x;cbv;refine jk hw hm f51 (by rfl) ?_
                cbv;refine⟨⟨by rw[hlb2];exact hpb2⟩,?_⟩
                generalize hzt:vc .lss (vofN n2) (vofN n0)=zt;cases zt
                · cbv
                  intro jzt;cbv;subst hb0l;exact⟨[0,1,4],.tup [.slice 2 .z 1 b0.length cb,.slice 1 .z 1 wn cw,.lit .i64 0],[.ro .u8 lits,.ro .u8 w,.buf 5 .u8 b0 cb],rfl,rfl,rfl,rfl,⟨rfl,rfl,rfl,trivial⟩,rfl,b0,w,cb,hcb,.inl ⟨hraw,rfl,rfl,rfl⟩⟩
                · rw[qc,kf,qofN] at hzt
                  cbv;intro jzt;cbv;have hwo4:=hs2y (by((try simp only[nc] at *);omega));subst hb2l;subst hon;exact⟨[0,1,8,6],.tup [.slice 2 .z 1 b2.length c2,.slice 3 .z 1 o.length o.length,.lit .i64 0],[.ro .u8 lits,.ro .u8 w,.buf 5 .u8 b2 c2,.ints 5 .u8 o],rfl,rfl,rfl,rfl,⟨rfl,rfl,rfl,rfl,trivial⟩,rfl,b2,o,c2,hcb2,.inr ⟨hwo4,rfl,rfl⟩⟩
        · have hs3:=hs3 b1 hb1
          obtain⟨n1,hn1⟩:∃y,b1.length=y:=⟨_,rfl⟩;have hb1l:=hn1;rw[hn1] at hcb1 hs3 ⊢
          have hlb1:vln b1=n1:=by rw[qln];exact hn1
          have hpb1:0<n1:=by have:=hb1.pos;omega
          clear hb1;cbv;refine jk hw hm f51 (by rfl) ?_
          cbv;refine⟨⟨by rw[hlb1];exact hpb1⟩,?_⟩
          generalize hzs:vc .lss (vofN n1) (vofN n0)=zs;cases zs
          · cbv
            intro jzs;cbv;refine ka (ρ:=[(0,.z)]) (hown c0) ⟨by rfl,by rfl,by rfl,by cbv;(repeat' first|(refine And.intro ?_ ?_)|exact trivial|exact⟨Nat.le_refl _⟩|exact kb _|exact fun _=>rfl|(simp only[renL3];done)|(show SB.roA _ _ _=SB.roA _ _ _;rfl)|exact funext fun _=>rfl)⟩ ?_
            rintro v H R js2 ⟨rfl,⟨rfl,rfl⟩|⟨o,rfl,rfl,ho1,ho2,ho3⟩⟩
            · cbv
              subst hb0l;exact⟨[0,1,4],.tup [.slice 2 .z 1 b0.length cb,.slice 1 .z 1 wn cw,.lit .i64 0],[.ro .u8 lits,.ro .u8 w,.buf 5 .u8 b0 cb],rfl,rfl,rfl,rfl,⟨rfl,rfl,rfl,trivial⟩,rfl,b0,w,cb,hcb,.inl ⟨hraw,rfl,rfl,rfl⟩⟩
            · have ho8:∀c∈o,kv c:=fun c hc=>⟨(ho3 c hc).1,by have:=(ho3 c hc).2;omega⟩
              obtain⟨on,hon⟩:∃y,o.length=y:=⟨_,rfl⟩;by_cases hWt:∃M,Wt o M
              rotate_left
              · have hwc:=hwcode o ho8 ho2 (fun M h=>hWt ⟨M,h⟩)
                rw[hon] at hwc ⊢
                clear hs2 hsec2 hwcode hwok;cbv;refine ka (ρ:=[(7,.z)]) hwc ⟨by rfl,by rfl,by rfl,by cbv;(repeat' first|(refine And.intro ?_ ?_)|exact trivial|exact⟨Nat.le_refl _⟩|exact kb _|exact fun _=>rfl|(simp only[renL3];done)|(show SB.roA _ _ _=SB.roA _ _ _;rfl)|exact funext fun _=>rfl)⟩ ?_
                rintro v H R js3 ⟨rfl,rfl,rfl⟩;cbv;rw[show vc .eql 50 0=false by rw[qc];rfl];cbv;subst hb0l;exact⟨[0,1,4],.tup [.slice 2 .z 1 b0.length cb,.slice 1 .z 1 wn cw,.lit .i64 0],[.ro .u8 lits,.ro .u8 w,.buf 5 .u8 b0 cb],rfl,rfl,rfl,rfl,⟨rfl,rfl,rfl,trivial⟩,rfl,b0,w,cb,hcb,.inl ⟨hraw,rfl,rfl,rfl⟩⟩
              obtain⟨M,hM⟩:=hWt;have hwc:=hwok o M ho8 hM;rw[hon] at hwc ⊢
              clear hwcode hwok hM;cbv;refine ka (ρ:=[(7,.z)]) hwc ⟨by rfl,by rfl,by rfl,by cbv;(repeat' first|(refine And.intro ?_ ?_)|exact trivial|exact⟨Nat.le_refl _⟩|exact kb _|exact fun _=>rfl|(simp only[renL3];done)|(show SB.roA _ _ _=SB.roA _ _ _;rfl)|exact funext fun _=>rfl)⟩ ?_
              rintro v H R js3 ⟨rfl,⟨_,_,rfl,rfl⟩|⟨d,cd,hd,hdc,rfl,rfl⟩⟩
              · clear hs2 hsec2
                cbv;rw[show vc .eql 0 0=true by rw[qc];rfl];cbv;subst hb0l;exact⟨[0,1,4],.tup [.slice 2 .z 1 b0.length cb,.slice 1 .z 1 wn cw,.lit .i64 0],[.ro .u8 lits,.ro .u8 w,.buf 5 .u8 b0 cb],rfl,rfl,rfl,rfl,⟨rfl,rfl,rfl,trivial⟩,rfl,b0,w,cb,hcb,.inl ⟨hraw,rfl,rfl,rfl⟩⟩
              · obtain⟨dn,hdn⟩:∃y,d.length=y:=⟨_,rfl⟩
                have hd0:=hd;obtain⟨hd8,hd1,hd129,_⟩:=hd;have hsx:=hsec2 o d on cd ho8 hd8 ho2 hd129;have hs2x:=hs2 o d;rw[hon,hdn] at hsx;rw[hdn] at hd1 ⊢
                have hld:vln d=dn:=by rw[qln];exact hdn
                clear hs2 hsec2 hd8 hd129;cbv;rw[show vc .eql 0 0=true by rw[qc];rfl];cbv;refine⟨⟨by rw[hld];exact hd1⟩,?_⟩
                refine ka (ρ:=[(0,.z),(7,.z),(8,.z)]) hsx ⟨by rfl,by rfl,by rfl,by cbv;(repeat' first|(refine And.intro ?_ ?_)|exact trivial|exact⟨Nat.le_refl _⟩|exact kb _|exact fun _=>rfl|(simp only[renL3];done)|(show SB.roA _ _ _=SB.roA _ _ _;rfl)|exact funext fun _=>rfl)⟩ ?_
                rintro v H R js4 ⟨rfl,⟨rfl,rfl⟩|⟨b2,c2,hb2,hcb2,rfl,rfl⟩⟩
                · clear hsx hs2x
                  cbv;refine jk hw hm f51 (by rfl) ?_
                  cbv;intro jz4;cbv;subst hb0l;exact⟨[0,1,4],.tup [.slice 2 .z 1 b0.length cb,.slice 1 .z 1 wn cw,.lit .i64 0],[.ro .u8 lits,.ro .u8 w,.buf 5 .u8 b0 cb],rfl,rfl,rfl,rfl,⟨rfl,rfl,rfl,trivial⟩,rfl,b0,w,cb,hcb,.inl ⟨hraw,rfl,rfl,rfl⟩⟩
                · have hs2y:=hs2x b2 ho8 hd0 hb2
                  obtain⟨n2,hn2⟩:∃y,b2.length=y:=⟨_,rfl⟩;have hb2l:=hn2;have hpb2:0<n2:=by have:=hb2.pos;omega
                  rw[hn2] at hcb2 hs2y ⊢
                  have hlb2:vln b2=n2:=by rw[qln];exact hn2
                  clear hb2 hsx hs2x;cbv;refine jk hw hm f51 (by rfl) ?_
                  cbv;refine⟨⟨by rw[hlb2];exact hpb2⟩,?_⟩
                  generalize hzt:vc .lss (vofN n2) (vofN n0)=zt;cases zt
                  · cbv
                    intro jzt;cbv;subst hb0l;exact⟨[0,1,4],.tup [.slice 2 .z 1 b0.length cb,.slice 1 .z 1 wn cw,.lit .i64 0],[.ro .u8 lits,.ro .u8 w,.buf 5 .u8 b0 cb],rfl,rfl,rfl,rfl,⟨rfl,rfl,rfl,trivial⟩,rfl,b0,w,cb,hcb,.inl ⟨hraw,rfl,rfl,rfl⟩⟩
                  · rw[qc,kf,qofN] at hzt
                    cbv;intro jzt;cbv;have hwo4:=hs2y (by((try simp only[nc] at *);omega));subst hb2l;subst hon;exact⟨[0,1,9,7],.tup [.slice 2 .z 1 b2.length c2,.slice 3 .z 1 o.length o.length,.lit .i64 0],[.ro .u8 lits,.ro .u8 w,.buf 5 .u8 b2 c2,.ints 5 .u8 o],rfl,rfl,rfl,rfl,⟨rfl,rfl,rfl,rfl,trivial⟩,rfl,b2,o,c2,hcb2,.inr ⟨hwo4,rfl,rfl⟩⟩
          · rw [qc, kf,qofN] at hzs
            cbv;intro jzs;cbv;have hwo3:=hs3 (by((try simp only[nc] at *);omega));have hn13:n1≤N+3:=by((try simp only[nc] at *);omega)
            refine ka (ρ:=[(0,.z)]) (hown c0) ⟨by rfl,by rfl,by rfl,by cbv;(repeat' first|(refine And.intro ?_ ?_)|exact trivial|exact⟨Nat.le_refl _⟩|exact kb _|exact fun _=>rfl|(simp only[renL3];done)|(show SB.roA _ _ _=SB.roA _ _ _;rfl)|exact funext fun _=>rfl)⟩ ?_
            rintro v H R js2 ⟨rfl,⟨rfl,rfl⟩|⟨o,rfl,rfl,ho1,ho2,ho3⟩⟩
            · cbv
              subst hb1l;exact⟨[0,1,6],.tup [.slice 2 .z 1 b1.length c1,.slice 1 .z 1 wn cw,.lit .i64 0],[.ro .u8 lits,.ro .u8 w,.buf 5 .u8 b1 c1],rfl,rfl,rfl,rfl,⟨rfl,rfl,rfl,trivial⟩,rfl,b1,w,c1,hcb1,.inl ⟨hwo3,rfl,rfl,rfl⟩⟩
            · have ho8:∀c∈o,kv c:=fun c hc=>⟨(ho3 c hc).1,by have:=(ho3 c hc).2;omega⟩
              obtain⟨on,hon⟩:∃y,o.length=y:=⟨_,rfl⟩;by_cases hWt:∃M,Wt o M
              rotate_left
              · have hwc:=hwcode o ho8 ho2 (fun M h=>hWt ⟨M,h⟩)
                rw[hon] at hwc ⊢
                clear hs2 hsec2 hwcode hwok;cbv;refine ka (ρ:=[(7,.z)]) hwc ⟨by rfl,by rfl,by rfl,by cbv;(repeat' first|(refine And.intro ?_ ?_)|exact trivial|exact⟨Nat.le_refl _⟩|exact kb _|exact fun _=>rfl|(simp only[renL3];done)|(show SB.roA _ _ _=SB.roA _ _ _;rfl)|exact funext fun _=>rfl)⟩ ?_
                rintro v H R js3 ⟨rfl,rfl,rfl⟩;cbv;rw[show vc .eql 50 0=false by rw[qc];rfl];cbv;subst hb1l;exact⟨[0,1,6],.tup [.slice 2 .z 1 b1.length c1,.slice 1 .z 1 wn cw,.lit .i64 0],[.ro .u8 lits,.ro .u8 w,.buf 5 .u8 b1 c1],rfl,rfl,rfl,rfl,⟨rfl,rfl,rfl,trivial⟩,rfl,b1,w,c1,hcb1,.inl ⟨hwo3,rfl,rfl,rfl⟩⟩
              obtain⟨M,hM⟩:=hWt;have hwc:=hwok o M ho8 hM;rw[hon] at hwc ⊢
              clear hwcode hwok hM;cbv;refine ka (ρ:=[(7,.z)]) hwc ⟨by rfl,by rfl,by rfl,by cbv;(repeat' first|(refine And.intro ?_ ?_)|exact trivial|exact⟨Nat.le_refl _⟩|exact kb _|exact fun _=>rfl|(simp only[renL3];done)|(show SB.roA _ _ _=SB.roA _ _ _;rfl)|exact funext fun _=>rfl)⟩ ?_
              rintro v H R js3 ⟨rfl,⟨_,_,rfl,rfl⟩|⟨d,cd,hd,hdc,rfl,rfl⟩⟩
              · clear hs2 hsec2
                cbv;rw[show vc .eql 0 0=true by rw[qc];rfl];cbv;subst hb1l;exact⟨[0,1,6],.tup [.slice 2 .z 1 b1.length c1,.slice 1 .z 1 wn cw,.lit .i64 0],[.ro .u8 lits,.ro .u8 w,.buf 5 .u8 b1 c1],rfl,rfl,rfl,rfl,⟨rfl,rfl,rfl,trivial⟩,rfl,b1,w,c1,hcb1,.inl ⟨hwo3,rfl,rfl,rfl⟩⟩
              · obtain⟨dn,hdn⟩:∃y,d.length=y:=⟨_,rfl⟩
                have hd0:=hd;obtain⟨hd8,hd1,hd129,_⟩:=hd;have hsx:=hsec2 o d on cd ho8 hd8 ho2 hd129;have hs2x:=hs2 o d;rw[hon,hdn] at hsx;rw[hdn] at hd1 ⊢
                have hld:vln d=dn:=by rw[qln];exact hdn
                clear hs2 hsec2 hd8 hd129;cbv;rw[show vc .eql 0 0=true by rw[qc];rfl];cbv;refine⟨⟨by rw[hld];exact hd1⟩,?_⟩
                refine ka (ρ:=[(0,.z),(7,.z),(8,.z)]) hsx ⟨by rfl,by rfl,by rfl,by cbv;(repeat' first|(refine And.intro ?_ ?_)|exact trivial|exact⟨Nat.le_refl _⟩|exact kb _|exact fun _=>rfl|(simp only[renL3];done)|(show SB.roA _ _ _=SB.roA _ _ _;rfl)|exact funext fun _=>rfl)⟩ ?_
                rintro v H R js4 ⟨rfl,⟨rfl,rfl⟩|⟨b2,c2,hb2,hcb2,rfl,rfl⟩⟩
                · clear hsx hs2x
                  cbv;refine jk hw hm f51 (by rfl) ?_
                  cbv;intro jz4;cbv;subst hb1l;exact⟨[0,1,6],.tup [.slice 2 .z 1 b1.length c1,.slice 1 .z 1 wn cw,.lit .i64 0],[.ro .u8 lits,.ro .u8 w,.buf 5 .u8 b1 c1],rfl,rfl,rfl,rfl,⟨rfl,rfl,rfl,trivial⟩,rfl,b1,w,c1,hcb1,.inl ⟨hwo3,rfl,rfl,rfl⟩⟩
                · have hs2y:=hs2x b2 ho8 hd0 hb2
                  obtain⟨n2,hn2⟩:∃y,b2.length=y:=⟨_,rfl⟩;have hb2l:=hn2;have hpb2:0<n2:=by have:=hb2.pos;omega
                  rw[hn2] at hcb2 hs2y ⊢
                  have hlb2:vln b2=n2:=by rw[qln];exact hn2
                  clear hb2 hsx hs2x;cbv;refine jk hw hm f51 (by rfl) ?_
                  cbv;refine⟨⟨by rw[hlb2];exact hpb2⟩,?_⟩
                  generalize hzt:vc .lss (vofN n2) (vofN n1)=zt;cases zt
                  · cbv
                    intro jzt;cbv;subst hb1l;exact⟨[0,1,6],.tup [.slice 2 .z 1 b1.length c1,.slice 1 .z 1 wn cw,.lit .i64 0],[.ro .u8 lits,.ro .u8 w,.buf 5 .u8 b1 c1],rfl,rfl,rfl,rfl,⟨rfl,rfl,rfl,trivial⟩,rfl,b1,w,c1,hcb1,.inl ⟨hwo3,rfl,rfl,rfl⟩⟩
                  · rw[qc,kf,qofN] at hzt
                    cbv;intro jzt;cbv;have hwo4:=hs2y (by((try simp only[nc] at *);omega));subst hb2l;subst hon;exact⟨[0,1,9,7],.tup [.slice 2 .z 1 b2.length c2,.slice 3 .z 1 o.length o.length,.lit .i64 0],[.ro .u8 lits,.ro .u8 w,.buf 5 .u8 b2 c2,.ints 5 .u8 o],rfl,rfl,rfl,rfl,⟨rfl,rfl,rfl,rfl,trivial⟩,rfl,b2,o,c2,hcb2,.inr ⟨hwo4,rfl,rfl⟩⟩
theorem knh {w lits b nxt:List Int} (B behind:List Int) (cap cw:Nat) (most u:Int) (hu:u=(b.length:Nat)) (hT:kaS false w lits b nxt) (hB:B=b++behind) (hm1:(lits.length:Int)≤most) (hm2:most≤131072) (hB8:∀c∈B,kv c) (hw8:∀c∈w,kv c) (hBl:B.length≤140737488355328) (hwl:w.length≤140737488355328) (hcap:B.length≤cap) :
  Con Try.prog 23 [.slice 0 .z 1 B.length cap,.slice 1 .z 1 w.length cw,.int .i64 most] [.ro .u8 B,.ro .u8 w] (fun v H R=>R=[]∧∃(L:List Int) (c c5 n:Nat),n=lits.length∧n≤c∧n≤L.length∧L.take n=lits ∧
   v=.tup [.slice 2 .z 1 n c,.slice 1 .z 1 w.length cw,.int .i64 u,.int .i64 0]∧H=[.ro .u8 B,.ro .u8 w,.buf 5 .u8 L c5]):=by
 have hr:=kb6 B w cap cw most hB8 hw8 hBl hwl hcap;subst hu;obtain⟨_,h|⟨x,h,hl⟩⟩:=hT behind most hm1 hm2
 ·rw[←hB] at h;rw[h] at hr;refine hr.mono ?_
  rintro v H R ⟨rfl,c,hc,rfl,rfl⟩;exact⟨rfl,lits,c,c,lits.length,rfl,hc,Nat.le_refl _,List.take_length,rfl,rfl⟩
 ·rw[←hB] at h;rw[h] at hr;refine kiT 2 (hr.mono ?_)
  rintro v H R ⟨rfl,L,c,hc,hL,ht,rfl,rfl⟩;exact⟨rfl,L,c,L.length,lits.length,rfl,hc,hL,by rw[ht];exact hl.symm,rfl,rfl⟩
theorem kni {w lits b nxt:List Int} (B behind:List Int) (cap cw:Nat) (most u:Int) (hu:u=(b.length:Nat)) (hT:kaS true w lits b nxt) (hB:B=b++behind) (hm1:(lits.length:Int)≤most) (hm2:most≤131072) (hB8:∀c∈B,kv c) (hw8:∀c∈w,kv c) (hBl:B.length≤140737488355328) (hwl:w.length≤140737488355328) (hcap:B.length≤cap) :
  Con Try.prog 23 [.slice 0 .z 1 B.length cap,.slice 1 .z 1 w.length cw,.int .i64 most] [.ro .u8 B,.ro .u8 w] (fun v H R=>R=[]∧∃(L:List Int) (c c5 n:Nat),n=lits.length∧n≤c∧n≤L.length∧L.take n=lits ∧
   ∃n3 c3,n3=nxt.length∧v=.tup [.slice 2 .z 1 n c,.slice 3 .z 1 n3 c3,.int .i64 u,.int .i64 0]∧H=[.ro .u8 B,.ro .u8 w,.buf 5 .u8 L c5,.buf 5 .u8 nxt c3]):=by
 have hr:=kb6 B w cap cw most hB8 hw8 hBl hwl hcap;subst hu;have h:RdL (b++behind) w most=.own lits nxt b.length:=hT behind most hm1 hm2;rw[←hB] at h;rw[h] at hr;refine hr.mono ?_
 rintro v H R ⟨rfl,c,c3,hc,rfl,rfl⟩;exact⟨rfl,lits,c,c,lits.length,rfl,hc,Nat.le_refl _,List.take_length,nxt.length,c3,rfl,rfl,rfl⟩
theorem body_own {kd sz rw u:Int} {c w L l:List Int} {v:Int} (h:kaz kd sz rw u c w=.own L l v):∃c,rdw c=some l:=by
 unfold kaz at h;split at h
 ·cases h
 split at h
 ·cases h
 split at h
 ·split at h
  ·cases h
  ·rename_i l' hl;refine⟨c,?_⟩
   generalize qa l' _ sz rw=o at h;cases o with
   |none=>simp[owned] at h
   |some L'=>
    simp only[owned] at h;injection h with h1 h2 h3;rw[←h2];exact hl
 ·generalize qa w c sz rw=o at h;cases o<;>simp[kept] at h
theorem own_len {B w L l:List Int} {most u:Int} (h:RdL B w most=.own L l u):l.length≤256:=by
 unfold RdL at h;repeat (split at h;· cases h)
 obtain⟨c,hc⟩:=body_own h;obtain⟨_,t,_,_,_,_,_,M,hW⟩:=koJ hc;exact hW.2.1
end Go.Proofs.Ytlclleihoampdaa
