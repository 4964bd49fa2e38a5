import Derived.Test.YtlclleihoampdaaB6
import Derived.Test.YtlclleihoampdaaB3
set_option linter.unusedVariables false
set_option linter.unusedSimpArgs false
namespace Go.Proofs.Ytlclleihoampdaa
open Go Go.Sx Go.Proofs
set_option maxRecDepth 100000
def pz (x:Int):Int:=if x<0 then 0 else phi x.toNat
theorem knD {cs told:List Int} (hR:jc cs 6) (h0:∀c∈cs,0≤c) (hall:∀j,j<told.length→0≤told.getD j 0∧(told.getD j 0).toNat<cs.length∧cs.getD (told.getD j 0).toNat 0≤63) {i:Nat} {q bs:List Int}
  (h:RT (jf cs 64) (qn cs 6 64 64) (qa cs 6 64 64) 64 told i q bs) :
  3*(bs.length:Int)+pz (q.getD (i % 2) 0)+pz (q.getD ((i+1) % 2) 0)+qB told (fun s=>(kap (cs.getD s 0).toNat:Int)) i≤qB told (fun s=>(kap (cs.getD s 0).toNat:Int)) told.length+2*(min (told.length-i) 2:Nat):=by
 have hpz:∀k:Nat,pz (k:Int)=phi k:=fun k=>by unfold pz;rw[if_neg (by omega),Int.toNat_natCast]
 induction h with
 | nil=>
  have hm:∀j,([-1,-1]:List Int).getD (j % 2) 0 = -1:=fun j=>by
   rcases(show j % 2=0∨j % 2=1 by omega) with h|h<;>rw[h]<;>rfl
  have hp:pz (-1)=0:=rfl;rw[hm,hm,hp];simp
 | @first i q bs k h hi hq hk ha hb ih=>
  have hI:=h.inv;obtain⟨s1,s2⟩:=set2 hI.ql i (k:Int);have hend:told.length≤i+2:=by
   apply Classical.byContradiction
   intro hc;have:=(hI.oth (by omega)).1;rw[ke6] at this;omega
  rw[ke6] at ih;have hq0:pz (q.getD (i % 2) 0)=0:=by unfold pz;rw[if_pos hq]
  have hk2:=kod k;rw[s1,s2,hpz];rw[hq0,qB] at ih;have hg:(0:Int)≤(kap (cs.getD (told.getD i 0).toNat 0).toNat:Int):=by omega
  have hmin:min (told.length-i) 2=min (told.length-(i+1)) 2+1:=by omega
  rw[hmin]
  push_cast at ih ⊢
  omega
 |@step i q bs k h hi hq hk ha ih=>
  have hI:=h.inv;obtain⟨s1,s2⟩:=set2 hI.ql i (k:Int);obtain⟨a1,a2,a3⟩:=ha;rw[ke6] at ih;obtain⟨nx,hnx⟩:∃nx:Nat,q.getD (i % 2) 0=nx:=⟨(q.getD (i % 2) 0).toNat,by omega⟩;obtain⟨b1,b2,b3⟩:=hall i hi;have hst:=kkZ hR h0 (k:=k) (s:=(told.getD i 0).toNat) (v:=nx) hk (by rw[a1];omega) b2 b3 (by rw[←hnx];exact a2);rw[hnx,hpz] at ih;rw[s1,s2,hpz,hnx,List.length_append,kg];rw[qB] at ih;have hmin:min (told.length-(i+1)) 2≤min (told.length-i) 2:=by omega
  push_cast at ih ⊢
  omega
theorem kjS {told:List Int} (h:∀i,i<told.length→0≤told.getD i 0∧told.getD i 0≤11):∀n,n≤told.length→∀i,i<n→1≤(frq told n).getD (told.getD i 0).toNat 0
 |0,_,i,hi=>by omega
 | n+1,hn,i,hi=>by
  rw[frq];have hx:=h n (by omega);have hr:=kaF told n (told.getD n 0).toNat;by_cases e:i=n
  ·subst e;rw[List.getD_eq_getElem?_getD,List.getElem?_set,if_pos rfl,if_pos (by rw[kcX];omega)];simp only[Option.getD_some];omega
  ·have ih:=kjS h n (by omega) i (by omega);rcases kaj (frq told n) (told.getD n 0).toNat (told.getD i 0).toNat ((frq told n).getD (told.getD n 0).toNat 0+1) with⟨h1,_⟩|h1<;>rw[h1]<;>omega
theorem kgC {f:List Int} (hf:2≤f.length) (s:Nat):∀i,(adX f i).getD s 0=f.getD s 0+(if s<i∧s<2 then 1 else 0)
 |0=>by rw[adX,if_neg (by omega)];omega
 | i+1=>by
  rw[adX];have ih:=kgC hf s i;have ihi:=kgC hf i i;by_cases h2:i<2
  ·rw[if_pos h2,List.getD_eq_getElem?_getD,List.getElem?_set];by_cases e:i=s
   ·subst e;rw[if_pos rfl,if_pos (by rw[kcY];omega),Option.getD_some,ihi,if_neg (by omega),if_pos (by omega)];omega
   ·rw[if_neg e,←List.getD_eq_getElem?_getD,ih];by_cases hs:s<i∧s<2
    ·rw[if_pos hs,if_pos (by omega)]
    ·rw[if_neg hs,if_neg (by omega)]
  ·rw[if_neg h2,ih];by_cases hs:s<i∧s<2
   ·rw[if_pos hs,if_pos (by omega)]
   ·rw[if_neg hs,if_neg (by omega)]
theorem kfU {l:List Int} (hR:jc l 6) (h:∀c∈l,0≤c) {s t:Nat} (hs:s<l.length) (ht:t<l.length) (hne:s≠t) (h1:1≤l.getD t 0):l.getD s 0≤63:=by
 have hall:=keV hR h;have a1:=qo l (i:=s+1) (j:=l.length) (by omega);have a2:=qo l (i:=t+1) (j:=l.length) (by omega);rw[hall] at a1 a2;have e1:jQ l (s+1)=jQ l s+(l.getD s 0).toNat:=rfl;have e2:jQ l (t+1)=jQ l t+(l.getD t 0).toNat:=rfl;rcases(show s<t∨t<s by omega) with hh|hh
 ·have:=qo l (i:=s+1) (j:=t) (by omega);omega
 ·have:=qo l (i:=t+1) (j:=s) (by omega);omega
theorem kjT {f:List Int} {g k:Nat→Int} {d:Nat→Int}:∀n,(∀s,s<n→f.getD s 0*g s≤f.getD s 0*k s+d s)→kan f g n≤kan f k n+kO d n
 |0,_=>by simp[kan,kO]
 |n+1,h=>by
  have ih:=kjT n (fun s hs=>h s (by omega));have:=h n (by omega);rw[kan,kan,kO];omega
theorem kfV {f:List Int} {g:Nat→Int} (h:∀s,0≤f.getD s 0*g s) {s:Nat}:∀n,s<n→f.getD s 0*g s≤kan f g n
 |0,h=>by omega
 | n+1,hn=>by
  rw[kan];have h0:∀n,0≤kan f g n:=fun n=>by
   induction n with
   |zero=>exact Int.le_refl _
   |succ n ih=>rw[kan];have:=h n;omega
  by_cases e:s=n
  ·subst e;have:=h0 s;omega
  ·have:=kfV (s:=s) h n (by omega);have:=h n;omega
theorem kgD (told:List Int) (h:∀i,0≤told.getD i 0):∀n,qB told (fun s=>(pwN s:Int)) n=sm told n
 |0=>rfl
 |n+1=>by
  rw[qB,sm,kgD told h n];have:=h n;congr 1
  unfold pw pwN;by_cases e:told.getD n 0≤0
  ·rw[if_pos e,if_pos (by omega)];rfl
  ·rw[if_neg e,if_neg (by omega),show(told.getD n 0-1).toNat=(told.getD n 0).toNat-1 by omega];push_cast;rfl
theorem kim (told:List Int) (g k:Nat→Int):∀n,qB told (fun s=>g s+k s) n=qB told g n+qB told k n
 |0=>rfl
 |n+1=>by rw[qB,qB,qB,kim told g k n];omega
theorem kcn (told:List Int) (c:Int):∀n:Nat,qB told (fun _=>c) n=c*n
 |0=>by simp[qB]
 |n+1=>by rw[qB,kcn told c n];push_cast;rw[Int.mul_add];omega
theorem kin (told:List Int) (c:Int) (g:Nat→Int):∀n:Nat,qB told (fun s=>c*g s) n=c*qB told g n
 |0=>by simp[qB]
 |n+1=>by rw[qB,qB,kin told c g n,Int.mul_add]
theorem kjc {l:List Int} (hR:jc l 6) (h:∀c∈l,0≤c) {s:Nat} (hs:s<l.length) (h1:1≤l.getD s 0) (h63:l.getD s 0≤63):∃k,k<64∧jf l 64 k=s∧0<qn l 6 64 64 k:=by
 have hs64:(2:Int)^(6:Int).toNat=64:=by decide
 have hps:km (l.getD s 0)=l.getD s 0:=by unfold km;rw[if_neg (by omega)]
 have hall:=kbO (kaY hR hs64) (N:=64) rfl hR.2.2.2.2.2.1 (by rw[hR.2.2.2.2.2.2,hs64]) s hs;rw[hps] at hall;obtain⟨k,hk,hks,hkc⟩:=kgj (f:=jf l 64) (s:=s) (N:=64) (c:=0) (Int.le_refl _) (by omega);obtain⟨x,b,hx,hb,hb6,e2,e3,h4,h5⟩:=khX hR h hk hks hs;have hc:=kgo hR h hs k (by omega);rw[hkc] at hc;have hx0:x=(l.getD s 0).toNat:=by omega
 refine⟨k,hk,hks,?_⟩
 rw[h4];cases b with
 |zero=>simp at e2;omega
 |succ b=>omega
theorem knE {told:List Int} (h2:2≤told.length) (hn:told.length≤255) (h11:∀i,i<told.length→0≤told.getD i 0∧told.getD i 0≤11) (hsm:sm told told.length≤2047):¬kgy told:=by
 obtain⟨n,hnn⟩:∃n,told.length=n:=⟨_,rfl⟩;obtain⟨f,hf⟩:∃f,f=frq told told.length:=⟨_,rfl⟩;have hfl:f.length=12:=by rw[hf];exact kcX _ _
 have hfr:∀j,0≤f.getD j 0∧f.getD j 0≤n:=fun j=>by rw[hf,←hnn];exact kaF told told.length j
 have hfd:∀g,kan f g 12=qB told g told.length:=fun g=>by rw[hf];exact kjR g h11 told.length (Nat.le_refl _)
 have hfp:∀i,i<told.length→1≤f.getD (told.getD i 0).toNat 0:=fun i hi=>by rw[hf];exact kjS h11 told.length (Nat.le_refl _) i hi
 obtain⟨w,hw⟩:∃w,w=adX f 12:=⟨_,rfl⟩;have hwl:w.length=12:=by rw[hw,kcY,hfl]
 have hwg:∀s,s<12→w.getD s 0=f.getD s 0+exN s:=fun s hs=>by
  rw[hw,kgC (by omega)];unfold exN;by_cases h:s<2
  ·rw[if_pos ⟨hs,h⟩,if_pos h];rfl
  ·rw[if_neg (by omega),if_neg h];rfl
 have hex:∀s,exN s≤1:=fun s=>by unfold exN;split<;>omega
 have hw0:∀s,0≤w.getD s 0:=fun s=>by
  by_cases h:s<12
  ·rw[hwg s h];have:=(hfr s).1;omega
  ·rw[List.getD_eq_getElem?_getD,List.getElem?_eq_none (by omega)];exact Int.le_refl _
 have hsom:=kcg w 12;have hsom1:1≤jW w 12:=by
  have h1:=kbq (f:=kcL w) (n:=12) (s:=0) (fun i _=>by unfold kcL;split<;>omega) (by decide);have h3:kcL w 0=1:=by
   unfold kcL;rw[if_pos];rw[hwg 0 (by decide)];have:=(hfr 0).1;show f.getD 0 0+(1:Int)>0
   omega
  unfold jW;omega
 have hsumF:qG w 12=(n:Int)+2:=by
  have h1:=hfd (fun _=>1);rw[kcn,hnn] at h1;have h3:∀m,m≤12→qG w m=kan f (fun _=>1) m+(min m 2:Nat):=by
   intro m;induction m with
   |zero=>intro _;rfl
   |succ m ih=>
    intro hm;have:=ih (by omega);unfold qG at *
    rw[kO,this,hwg m (by omega),kan];unfold exN;split<;>omega
  rw[h3 12 (Nat.le_refl _),h1];omega
 unfold kgy;rw[←hf,←hw];rintro(h|⟨cs,hF,hB⟩)
 ·have h64:(2:Int)^(6:Int).toNat=64:=by decide
  exact h ⟨by omega,by decide,by decide,by rw[hwl];exact hsom1,by rw[hwl,h64];omega⟩
 obtain⟨hR,hcl,hI,hiff,hlow⟩:=hF;rw[hwl] at hcl hiff hlow;have hs64:(2:Int)^(6:Int).toNat=64:=by decide
 rw[hsumF,hs64] at hlow;have h0:∀c∈cs,0≤c:=fun c hc=>by
  obtain⟨j,hj,rfl⟩:=List.getElem_of_mem hc;have:=(hlow j).1;rw[List.getD_eq_getElem?_getD,List.getElem?_eq_getElem hj,Option.getD_some] at this;exact this
 have hpres:∀s,s<12→0<w.getD s 0→s<cs.length∧1≤cs.getD s 0:=fun s hs hp=>by
  have h1:=(hiff s hs).1 hp;have h3:=(hlow s).1;exact⟨h1.1,by omega⟩
 have hp01:∀s,s<2→0<w.getD s 0:=fun s hs=>by
  rw[hwg s (by omega)];have:=(hfr s).1;unfold exN;rw[if_pos hs];omega
 have h63:∀s,s<cs.length→cs.getD s 0≤63:=fun s hs=>by
  by_cases e:s=0
  ·have:=hpres 1 (by decide) (hp01 1 (by decide));exact kfU hR h0 hs this.1 (by omega) this.2
  ·have:=hpres 0 (by decide) (hp01 0 (by decide));exact kfU hR h0 hs this.1 (by omega) this.2
 have hin:∀i,i<told.length→(told.getD i 0).toNat<12∧0<w.getD (told.getD i 0).toNat 0:=fun i hi=>by
  have h1:=h11 i hi;have h3:=hfp i hi;refine⟨by omega,?_⟩
  rw[hwg _ (by omega)];omega
 have hall:∀j,j<told.length→0≤told.getD j 0∧(told.getD j 0).toNat<cs.length∧cs.getD (told.getD j 0).toNat 0≤63:=fun j hj=>by
  have h1:=hin j hj;have h3:=hpres _ h1.1 h1.2;exact⟨(h11 j hj).1,h3.1,h63 _ h3.1⟩
 rcases hB with⟨i,q,bs,hi,hrt,hh|hh⟩|⟨q,bs,hrt,hbad⟩
 ·obtain⟨hq,hno⟩:=hh;have h1:=hin i hi;have h3:=hpres _ h1.1 h1.2;obtain⟨k,hk,hks,hkb⟩:=kjc hR h0 h3.1 h3.2 (h63 _ h3.1);exact(hno k hk (by rw[hks];have:=(h11 i hi).1;omega)).2 hkb
 ·obtain⟨hq,hno⟩:=hh;have hI:=hrt.inv;have hlt:i+2<told.length:=by
   apply Classical.byContradiction
   intro hc;have:=hI.nob (by omega);rw[ke6] at this;omega
  have ho:=hI.oth (by omega);rw[ke6] at ho;have h1:=hin i hi;have h3:=hpres _ h1.1 h1.2;obtain⟨k,hk,a1,a2,a3⟩:=kmk hR hs64 (N:=64) rfl h3.1 (by omega) (v:=q.getD (i % 2) 0) ho.1 (by have:=ho.2.1;omega);exact hno k hk ⟨by rw[a1];have:=(h11 i hi).1;omega,a2,a3⟩
 ·have hcost:=knD hR h0 hall hrt;have hp1:∀x,0≤pz x:=fun x=>by unfold pz;split<;>omega
  have hpa:=hp1 (q.getD (0 % 2) 0);have hpb:=hp1 (q.getD ((0+1) % 2) 0);obtain⟨g,hg⟩:∃g:Nat→Int,g=fun s=>(kap (cs.getD s 0).toNat:Int):=⟨_,rfl⟩
  rw[←hg,hnn] at hcost;have hz:qB told g 0=0:=rfl;rw[hz] at hcost;have hfn:∀s,f.getD s 0=((f.getD s 0).toNat:Int):=fun s=>by have:=(hfr s).1;omega
  have hpw:∀s,s<12→(f.getD s 0).toNat*pwN s≤2047:=fun s hs=>by
   have h1:=kfV (f:=f) (g:=fun s=>(pwN s:Int)) (s:=s) (fun s=>Int.mul_nonneg (hfr s).1 (by omega)) 12 hs;rw[hfd,kgD told (fun i=>by
    by_cases hh:i<told.length
    ·exact(h11 i hh).1
    ·rw[List.getD_eq_getElem?_getD,List.getElem?_eq_none (by omega)];exact Int.le_refl _)] at h1
   have h3:(((f.getD s 0).toNat*pwN s:Nat):Int)=f.getD s 0*(pwN s:Int):=by push_cast;rw[←hfn s]
   omega
  have hterm:∀s,s<12→f.getD s 0*(8*g s)≤f.getD s 0*(41+(pwN s:Int))+(gam s:Int):=fun s hs=>by
   obtain⟨m,hm⟩:∃m,m=(f.getD s 0).toNat:=⟨_,rfl⟩;have hga:=kpz (s:=s) (f:=m) hs (by have:=(hfr s).2;omega) (by rw[hm];exact hpw s hs);have hk:8*m*kap (cs.getD s 0).toNat≤8*m*kap (1+(m+exN s)*52 / 257):=by
    by_cases e:m=0
    ·rw[e];simp
    ·have hwp:0<w.getD s 0:=by rw[hwg s hs];omega
     have hl:=(hlow s).2 hs hwp;have h3:=hpres s hs hwp;have h5:=h63 s h3.1;refine Nat.mul_le_mul_left _ (kmP ?_ (by omega))
     have hw':w.getD s 0=((m+exN s:Nat):Int):=by rw[hwg s hs];omega
     obtain⟨fr,hfr2⟩:∃fr:Nat,(64:Int)-jW w 12=fr:=⟨(64-jW w 12).toNat,by omega⟩;rw[hw',hfr2,show((n:Int)+2)=((n+2:Nat):Int) by push_cast;rfl] at hl;have hd:(m+exN s)*52 / 257≤(m+exN s)*fr / (n+2):=Nat.div_le_div (Nat.mul_le_mul_left _ (by omega)) (by omega) (by omega);have hl2:((1+(m+exN s)*fr / (n+2):Nat):Int)≤cs.getD s 0:=by push_cast;push_cast at hl;exact hl
     omega
   have hfin:8*m*kap (cs.getD s 0).toNat≤41*m+m*pwN s+gam s:=Nat.le_trans hk hga;rw[hfn s,←hm,hg];have e1:((8*m*kap (cs.getD s 0).toNat:Nat):Int)=(m:Int)*(8*(kap (cs.getD s 0).toNat:Int)):=by push_cast;rw[Int.mul_comm 8,Int.mul_assoc]
   have e2:((41*m+m*pwN s+gam s:Nat):Int)=(m:Int)*(41+(pwN s:Int))+gam s:=by push_cast;rw[Int.mul_add];omega
   show(m:Int)*(8*(kap (cs.getD s 0).toNat:Int))≤(m:Int)*(41+(pwN s:Int))+(gam s:Int)
   rw[←e1,←e2];exact Int.ofNat_le.2 hfin
  have hsum:=kjT (f:=f) (g:=fun s=>8*g s) (k:=fun s=>41+(pwN s:Int)) (d:=fun s=>(gam s:Int)) 12 hterm;rw[hfd,hfd,kin,kim,kcn,kgD told (fun i=>by
    by_cases hh:i<told.length
    ·exact(h11 i hh).1
    ·rw[List.getD_eq_getElem?_getD,List.getElem?_eq_none (by omega)];exact Int.le_refl _),hnn] at hsum
  have hgs:kO (fun s=>(gam s:Int)) 12=8694:=by decide
  rw[hgs] at hsum;rw[hnn] at hsm hn;have hmin:min (n-0) 2≤2:=Nat.min_le_right _ _;refine hbad ⟨kmF hR hcl h2 (by omega) hrt,?_⟩
  unfold ke5;have hh14:=kny h0 hcl;have hlen:∀a b:List Int,a.length=6→b.length=6→(pack (bs++a++b++[1])).length=(bs.length+20) / 8:=fun a b ha hb=>by
   rw[kF];simp only[List.length_append,List.length_cons,List.length_nil,ha,hb]
  rw[List.length_append,hlen _ _ (kg _ _) (kg _ _)];omega
set_option maxHeartbeats 40000000
theorem ko0:Wt [1,1,2,3] 3:=by
 refine⟨by decide,by decide,by decide,?_,by decide,by decide,by decide⟩
 intro i hi;simp only[List.length_cons,List.length_nil] at hi;rcases(by omega:i=0∨i=1∨i=2∨i=3) with rfl|rfl|rfl|rfl<;>decide
theorem kpA:pack (pb [1,1,2,3] 3 [3,2,0] 3++[1])=[104]:=by
 have e:pb [1,1,2,3] 3 [3,2,0] 3=(([]++kr (xA [1,1,2,3] 0) (nA [1,1,2,3] 3 0).toNat)++kr (xA [1,1,2,3] 2) (nA [1,1,2,3] 3 2).toNat)++kr (xA [1,1,2,3] 3) (nA [1,1,2,3] 3 3).toNat:=rfl;have s0:Sy [1,1,2,3] 0:=⟨by decide,by decide⟩;have s2:Sy [1,1,2,3] 2:=⟨by decide,by decide⟩;have s3:Sy [1,1,2,3] 3:=⟨by decide,by decide⟩;rw[e,kmz s0,kmz s2,kmz s3,kmA s0,kmA s2,kmA s3];decide
theorem ko1:kbv [1,1,2,3] [3,2,0] 3:=by
 intro i hi;rcases(by omega:i=0∨i=1∨i=2) with rfl|rfl|rfl<;>exact⟨by decide,by decide⟩
theorem u8W (l:List Int) (h:l.all (fun c=>decide (0≤c∧c≤255))=true):∀c∈l,kR c:=fun c hc=>by
 have:=List.all_eq_true.1 h c hc;unfold kR;exact of_decide_eq_true this
theorem kfW {l d:List Int} (B rest:List Int) (cap:Nat) (u:Int) (hd:q5 l d) (hB:B=d++rest) (hu:u=(d.length:Nat)) (hB8:∀c∈B,kR c) (hBl:B.length≤140737488355328) (hcap:B.length≤cap) :
  Con Try.prog 20 [.slice 0 .z 1 B.length cap] [.ro .u8 B] (fun v H R=>R=[]∧∃c',H=[.ro .u8 B,.buf 5 .u8 l c']∧v=.tup [.slice 1 .z 1 l.length c',.int .i64 u,.int .i64 0]):=by
 obtain⟨_,_,_,hr⟩:=hd;obtain⟨h1,h2⟩:=hr rest;rw[←hB] at h1 h2;obtain⟨h3,h4⟩:=kmL h1;refine(kfS B cap (kfR hB8) hBl hcap).mono ?_
 rintro v H R ⟨rfl,⟨hs,_⟩|⟨_,hno,_⟩|⟨_,l',c',hl',rfl,rfl⟩⟩
 ·exact absurd hs h3
 ·exact absurd h4 (hno l)
 ·obtain rfl:=RdW.uniq hl' h4;exact⟨rfl,c',rfl,by rw[h2,hu]⟩
theorem kop:q5 [1,1,2,3] [130,17,32]:=by
 refine kfT (u8W _ rfl) ko0 (by decide) (u8W _ rfl) rfl rfl (fun i hi=>?_)
 simp only[List.length_cons,List.length_nil] at hi;rcases(by omega:i=0∨i=1∨i=2) with rfl|rfl|rfl<;>rfl
theorem kio:Con Try.prog 19 [] [] (fun v H R=>v=.bool true∧H=[]∧R=[]):=by
 have h1:=fun cap h=>kfW [130,17,32] [] cap 3 kop rfl rfl (u8W _ rfl) (by decide) h
 have h2:=fun cap h=>kfS [130,17] cap (kfR (u8W _ rfl)) (by decide) h
 have hsh:jB [130,17]:=.inr (by decide);have hp:=fun cap cap2=>kmy [1,1,2,3] [3,2,0] cap cap2 3 (u8W _ rfl) (u8W _ rfl) ko0 (by decide)
 have hpw:=kpA;have haw:=ko1;simp only[List.length_cons,List.length_nil] at hp h1 h2;generalize pb [1,1,2,3] 3 [3,2,0]=PB at *;generalize kbv [1,1,2,3] [3,2,0]=ALL at *;generalize pack=PK at *;generalize hRd:RdW 256 [130,17]=RD at *;generalize hsw:jB [130,17]=SW at *;generalize hhn:hnW [130,17]=HN at *;refine kw (kV 0 (by simp) (kH (kl kD ko4 ?_)))
 intro _ vc _ _ _ vaddN _ _ _ _ _ _ vln _ vsub _ _ vstrEq _ _ _ _ _ qc _ _ _ qaddN _ _ _ _ _ _ qln _ qsub _ _ qstrEq _ _ _;have hm:=kD;generalize Try.prog=P at *;have hst:∀l,vstrEq l l=true:=fun l=>by rw[qstrEq];simp
 have ha0:∀n,vaddN 0 n=n:=fun n=>by simp only[qaddN,Nat.zero_add]
 have hlnq:∀l,vln l=l.length:=fun l=>by simp only[qln]
 have e00:vc .eql 0 0=true:=by rw[qc];rfl
 have e33:vc .eql 3 3=true:=by rw[qc];rfl
 have e10:vc .eql 10 10=true:=by rw[qc];rfl
 have s4:vsub [1,1,2,3] 0 4=[1,1,2,3]:=by rw[qsub];rfl
 have s1:vsub [104] 0 1=[104]:=by rw[qsub];rfl
 cbv;refine ka (ρ:=[(0,.z)]) (h1 3 (by decide)) ⟨by rfl,by rfl,by rfl,by cbv;(repeat' first|(refine And.intro ?_ ?_)|exact trivial|exact⟨Nat.le_refl _⟩|exact kd _|exact fun _=>rfl|(simp only[renL3];done)|(show SB.roA _ _ _=SB.roA _ _ _;rfl)|exact funext fun _=>rfl)⟩ ?_
 rintro v H R js ⟨rfl,c1,rfl,rfl⟩;cbv;refine ka (ρ:=[(1,.z),(2,.z)]) (hp c1 3) ⟨by rfl,by rfl,by rfl,by cbv;(repeat' first|(refine And.intro ?_ ?_)|exact trivial|exact⟨Nat.le_refl _⟩|exact kd _|exact fun _=>rfl|(simp only[renL3];done)|(show SB.roA _ _ _=SB.roA _ _ _;rfl)|exact funext fun _=>rfl)⟩ ?_
 rintro v H R js2 ⟨rfl,L,c',rfl,⟨_,hbad⟩|⟨rfl,hL,_⟩⟩
 ·exfalso;exact hbad haw
 obtain rfl:L=[104]:=hL.trans hpw;cbv;refine ka (ρ:=[(4,.z)]) (h2 2 (by decide)) ⟨by rfl,by rfl,by rfl,by cbv;(repeat' first|(refine And.intro ?_ ?_)|exact trivial|exact⟨Nat.le_refl _⟩|exact kd _|exact fun _=>rfl|(simp only[renL3];done)|(show SB.roA _ _ _=SB.roA _ _ _;rfl)|exact funext fun _=>rfl)⟩ ?_
 rintro v H R js3 ⟨rfl,⟨_,rfl,rfl⟩|⟨hn,_⟩|⟨hn,_⟩⟩
 ·cbv;rw[e00];cbv;rw[e33];cbv;refine⟨⟨by rw[ha0,hlnq];decide⟩,?_⟩
  rw[s4,hst];cbv;rw[e00];cbv;refine⟨⟨by rw[ha0,hlnq];decide⟩,?_⟩
  rw[s1,hst];cbv;rw[e10];cbv
 ·exfalso;exact hn hsh
 ·exfalso;exact hn hsh
end Go.Proofs.Ytlclleihoampdaa
