/-
 For all rows of bytes a and b, balerlaw11.LiteralsTwice returns true and leaves its arguments as they were. No condition.
-/
import Derived.Test.YtlclleihoampdaaA7
import Derived.Test.YtlclleihoampdaaED
namespace Go.Proofs.Ytlclleihoampdaa.literalsTwice
open Go Go.Sx Go.ChangeShapes Go.WideShapes Go.ChangeAt Go.RowKit Go.Deep
set_option linter.unusedVariables false
theorem wf_u8 {x:Int} (h:(Lit.int .u8 x).wf=true):kv x:=by
 simp[Lit.wf,IntKind.min,IntKind.max,IntKind.signed,IntKind.bits] at h
 unfold kv
 omega
theorem kkP (l:List Int):(List.map (fun n=>UInt8.ofNat n.toNat) l==List.map (fun n=>UInt8.ofNat n.toNat) l)=true:=by simp
theorem cut_view {l lt:List Int} {N:Nat} (h:N≤l.length) (hlt:lt=l.take N):lt.length=N∧kdP 0 lt l:=by
 have hl:lt.length=N:=by rw[hlt,List.length_take];omega
 exact⟨hl,⟨by rw[hl];omega,fun i hi=>by
  rw[hl] at hi
  rw[Nat.zero_add,hlt,List.getD_eq_getElem?_getD,List.getD_eq_getElem?_getD,List.getElem?_take,if_pos hi]⟩⟩
set_option maxHeartbeats 40000000 in
set_option maxRecDepth 100000 in
theorem kpV (a b:List Int) (cap cap2:Nat) (ha8:∀c∈a,kv c) (hb8:∀c∈b,kv c) (hal:a.length≤140737488355328) (hbl:b.length≤140737488355328) (hc0:a.length≤cap) (hc1:b.length≤cap2) :
  Con Try.prog 9 [.slice 0 .z 1 a.length cap,.slice 1 .z 1 b.length cap2] [.ro .u8 a,.ro .u8 b] (fun v H R=>v=.bool true∧H=[.ro .u8 a,.ro .u8 b]∧R=[]):=by
 have hwakes:=kjL
 obtain⟨N,hN⟩:∃N,N=min a.length 3000:=⟨_,rfl⟩
 obtain⟨M,hM⟩:∃N,N=min b.length 3000:=⟨_,rfl⟩
 obtain⟨lt,hlt⟩:∃l,l=a.take N:=⟨_,rfl⟩
 obtain⟨mt,hmt⟩:∃l,l=b.take M:=⟨_,rfl⟩
 obtain⟨hltl,hview⟩:=cut_view (by omega) hlt
 obtain⟨hmtl,hview2⟩:=cut_view (by omega) hmt
 have hlt8:∀c∈lt,kv c:=fun c hc=>ha8 c (by rw[hlt] at hc;exact List.mem_of_mem_take hc)
 have hmt8:∀c∈mt,kv c:=fun c hc=>hb8 c (by rw[hmt] at hc;exact List.mem_of_mem_take hc)
 have h1:=kjM lt [] cap 0 hlt8 (by simp) (by omega) (by omega) (by decide)
 have h2:=fun(w:List Int) (cw:Nat) (hw8:∀c∈w,kv c) (hw:w.length≤140737488355328)=>kjM mt w cap2 cw hmt8 hw8 (by omega) (by omega) hw
 have hwo:∀f w lits K b nxt,lits.length=K→khQ f w lits b nxt→kaS f w lits b nxt∧b.length≤K+3∧(∀c∈b,kv c)∧(∀c∈nxt,kv c):=fun f w lits K b nxt hK h=>⟨h.1,by have:=h.2.1;omega,h.2.2.1,h.2.2.2⟩
 have hr1K:=fun(x y B:List Int) (c:Nat) (u:Int) (hu:u=(x.length:Nat)) (hT:kaS false [] lt x []) (hB:B=x++y) (hB8:∀c∈B,kv c) (hBl:B.length≤140737488355328) (hcc:B.length≤c)=>knh B y c 0 (N:Int) u hu hT hB (by rw[hltl];exact Int.le_refl _) (by omega) hB8 (by simp) hBl (by decide) hcc
 have hr1O:=fun(x y B nxt:List Int) (c:Nat) (u:Int) (hu:u=(x.length:Nat)) (hT:kaS true [] lt x nxt) (hB:B=x++y) (hB8:∀c∈B,kv c) (hBl:B.length≤140737488355328) (hcc:B.length≤c)=>kni B y c 0 (N:Int) u hu hT hB (by rw[hltl];exact Int.le_refl _) (by omega) hB8 (by simp) hBl (by decide) hcc
 have hr2K:=fun(w y:List Int) (c cw:Nat) (u:Int) (hu:u=(y.length:Nat)) (hT:kaS false w mt y w) (hB8:∀c∈y,kv c) (hw8:∀c∈w,kv c) (hw:w.length≤140737488355328) (hBl:y.length≤140737488355328) (hcc:y.length≤c)=>knh y [] c cw (M:Int) u hu hT (List.append_nil y).symm (by rw[hmtl];exact Int.le_refl _) (by omega) hB8 hw8 hBl hw hcc
 have hr2O:=fun(w y nxt:List Int) (c cw:Nat) (u:Int) (hu:u=(y.length:Nat)) (hT:kaS true w mt y nxt) (hB8:∀c∈y,kv c) (hw8:∀c∈w,kv c) (hw:w.length≤140737488355328) (hBl:y.length≤140737488355328) (hcc:y.length≤c)=>kni y [] c cw (M:Int) u hu hT (List.append_nil y).symm (by rw[hmtl];exact Int.le_refl _) (by omega) hB8 hw8 hBl hw hcc
 rw[hltl] at hr1K hr1O
 rw[hmtl] at hr2K hr2O
 have hnxl:∀(w lits b nxt:List Int),lits.length≤3000→kaS true w lits b nxt→nxt.length≤256:=fun w lits b nxt hl h=>own_len (h [] (lits.length:Int) (Int.le_refl _) (by omega))
 refine kj (kA 2 (by simp) (km (kg kr fn9 ?_)))
 intro vb vc vw vtoN vofN vaddN vsubN vmaxI vminI vcutN vgd vst vln vrep vsub vonto vsplice vstrEq vbyteV vnotB veqB hw qb qc qw qtoN qofN qaddN qsubN qmaxI qminI qcutN qgd qst qln qrep qsub qonto qsplice qstrEq qbyteV qnotB qeqB
 have hm:=kr;generalize Try.prog=P at *
 rw[hltl] at h1
 rw[hmtl] at h2
 have hsub:∀(l:List Int) n,l.length=n→vsub l 0 n=l:=fun l n h=>by rw[qsub,←h];simp
 have hsubA:vsub a 0 N=lt:=by rw[qsub,hlt];simp
 have hsubB:vsub b 0 M=mt:=by rw[qsub,hmt];simp
 have hlnq:∀l,vln l=l.length:=fun l=>by simp only[qln]
 generalize hLn:a.length=n0 at *
 generalize hMn:b.length=m0 at *
 obtain⟨n0I,hn0I⟩:∃x:Int,x=n0:=⟨_,rfl⟩
 have en0:vofN n0=n0I:=by rw[qofN,hn0I]
 obtain⟨m0I,hm0I⟩:∃x:Int,x=m0:=⟨_,rfl⟩
 have em0:vofN m0=m0I:=by rw[qofN,hm0I]
 obtain⟨nI,hnI⟩:∃x:Int,x=N:=⟨_,rfl⟩
 have en:vofN N=nI:=by rw[qofN,hnI]
 obtain⟨mI,hmI⟩:∃x:Int,x=M:=⟨_,rfl⟩
 have em:vofN M=mI:=by rw[qofN,hmI]
 have htn:vtoN nI=N:=by rw[hnI,qtoN];simp
 have htm:vtoN mI=M:=by rw[hmI,qtoN];simp
 have hmin:vminI n0I 3000=nI:=by rw[qminI];simp only[];split<;>omega
 have hmin2:vminI m0I 3000=mI:=by rw[qminI];simp only[];split<;>omega
 have hst:∀l,vstrEq l l=true:=fun l=>by rw[qstrEq];exact kkP l
 have hnf:vnotB true=false:=by rw[qnotB];rfl
 have e00:vc .eql 0 0=true:=by rw[qc];rfl
 have n00:vc .neq 0 0=false:=by rw[qc];rfl
 have ha0:∀n,vaddN 0 n=n:=fun n=>by simp only[qaddN,Nat.zero_add]
 have hnC:0≤nI∧nI≤(cap:Int):=by omega
 have hmC:0≤mI∧mI≤(cap2:Int):=by omega
 have ln0:vln []=0:=by rw[qln];rfl
 have hlla:vln a=n0:=by rw[hlnq];exact hLn
 have hllb:vln b=m0:=by rw[hlnq];exact hMn
 rw[←hnI] at hr1K hr1O
 rw[←hmI] at hr2K hr2O
 have hNn:N≤n0:=by omega
 have hMm:M≤m0:=by omega
 have hN3:N≤3000:=by omega
 have hM3:M≤3000:=by omega
 cbv
 rw[en0,hmin,htn,em0,hmin2,htm]
 refine⟨⟨hnC⟩,⟨hmC⟩,?_⟩
 refine kcp 5 .u8 (by cbv) (by rfl) ?_
 refine ka (ρ:=[(0,.z),(2,.z)]) h1 ⟨by rfl,by rfl,by rfl,by cbv;exact⟨hview,kb _,trivial⟩⟩ ?_
 rintro v H R js ⟨rfl,x,nxt,cx,hcx,⟨hwx,rfl,rfl,rfl⟩|⟨hwx,rfl,rfl⟩⟩
 ·obtain⟨hTx,hxl,hx8,hn8⟩:=hwo _ _ _ _ x [] hltl hwx
  obtain⟨xn,hxn⟩:∃z,z=x.length:=⟨_,rfl⟩
  obtain⟨xI,hxI⟩:∃z:Int,z=xn:=⟨_,rfl⟩
  have exn:vofN xn=xI:=by rw[qofN,hxI]
  have h2:=h2 [] 0 (by simp) (by decide)
  rw[←hxn] at hcx ⊢
  clear h1 hwx
  cbv
  refine ka (ρ:=[(1,.z),(2,.z)]) h2 ⟨by rfl,by rfl,by rfl,by cbv;exact⟨hview2,kb _,trivial⟩⟩ ?_
  rintro v H R js2 ⟨rfl,y,last,cy,hcy,⟨hwy,hls,rfl,rfl⟩|⟨hwy,rfl,rfl⟩⟩
  ·obtain rfl:[]=last:=hls.symm
   skip
   obtain⟨hTy,hyl,hy8,hl8⟩:=hwo _ _ _ _ y [] hmtl hwy
   obtain⟨yn,hyn⟩:∃z,z=y.length:=⟨_,rfl⟩
   obtain⟨yI,hyI⟩:∃z:Int,z=yn:=⟨_,rfl⟩
   have eyn:vofN yn=yI:=by rw[qofN,hyI]
   rw[←hyn] at hcy ⊢
   obtain⟨B,hB⟩:∃z,z=x++y:=⟨_,rfl⟩
   obtain⟨Bn,hBn⟩:∃z,z=xn+yn:=⟨_,rfl⟩
   have hBl:B.length=Bn:=by rw[hB,List.length_append,←hxn,←hyn,hBn]
   have hB8:∀c∈B,kv c:=fun c hc=>by
    rw[hB] at hc
    exact(List.mem_append.1 hc).elim (hx8 c) (hy8 c)
   have hr1:=fun c (hcc:Bn≤c)=>hr1K x y B c xI (by rw[hxI,hxn]) hTx hB hB8 (by omega) (by omega)
   have hr2:=fun c cw (hcc:yn≤c)=>hr2K [] y c cw yI (by rw[hyI,hyn]) hTy hy8 (by simp) (by decide) (by omega) (by omega)
   rw[hBl] at hr1
   rw[←hyn] at hr2
   skip
   have hvw:∀o,o=xn∨yn=0∧o≤B.length→kdP o y B:=fun o ho=>by
    have h:y=seg B xn yn:=by unfold seg;rw[hB,hxn,List.drop_left,hyn,List.take_length]
    rw[h];exact kdt (by omega) ho
   have hcutv:∀c,Bn≤c→kdP (vcutN 0 xn c) y B:=fun c hc=>hvw _ (by
    rw[qcutN]
    show(if c=xn then 0 else 0+xn)=xn∨yn=0∧(if c=xn then 0 else 0+xn)≤B.length
    by_cases h:c=xn
    ·simp only[if_pos h];omega
    ·simp only[if_neg h];omega)
   have hyc:∀c,Bn≤c→yn≤vsubN c xn:=fun c hc=>by
    have e:vsubN c xn=c-xn:=by rw[qsubN]
    omega
   have hab:vaddN xn yn=Bn:=by rw[qaddN,hBn]
   have hsBy:vsubN Bn xn=yn:=by
    have e:vsubN Bn xn=Bn-xn:=by rw[qsubN]
    omega
   have hlxx:vln x=xn:=by rw[hlnq,hxn]
   have hlyy:vln y=yn:=by rw[hlnq,hyn]
   have hon1:vonto [] 0 x=x:=by rw[qonto];simp
   have hon2:vonto x xn y=B:=by
    have e1:x.take xn=x:=by rw[hxn];exact List.take_length
    rw[qonto,hB];simp[e1]
   have hsbx:vsub x 0 xn=x:=hsub x xn hxn.symm
   have hsby:vsub y 0 yn=y:=hsub y yn hyn.symm
   have exx:vc .neq xI xI=false:=by rw[qc,ql];exact fun h=>h rfl
   have eyy:vc .eql yI yI=true:=by rw[qc,kF]
   have htx:vtoN xI=xn:=by rw[hxI,qtoN];simp
   have hxB:xn≤Bn:=by omega
   have hBn2:Bn≤100000000:=by omega
   have hxn2:xn≤100000000:=by omega
   clear h2 hwo hr1K hr1O hr2K hr2O hwy hTx hTy hB hBl hB8 hx8 hy8 hl8 hn8 hnxl hvw hsub
   cbv
   rw[n00]
   cbv
   rw[n00]
   cbv
   refine⟨⟨by rw[ha0,hlxx];exact Nat.le_refl _⟩,⟨by rw[ln0];exact Nat.le_refl _⟩,⟨by rw[ln0];exact Nat.le_refl _⟩,⟨by rw[ha0];((try simp only[nc] at *);omega)⟩,?_⟩
   intro c5 jv5 hc5
   have h5:xn≤c5:=by have h:vaddN 0 xn≤c5:=hc5.out;rw[ha0] at h;exact h
   cbv
   rw[hsbx,hon1,ha0 xn]
   refine⟨⟨by rw[ha0,hlyy];exact Nat.le_refl _⟩,⟨by rw[hlxx];exact Nat.le_refl _⟩,⟨Nat.le_refl _⟩,⟨by rw[hab];((try simp only[nc] at *);omega)⟩,?_⟩
   intro c6 jv6 hc6
   have h6:Bn≤c6:=by have h:vaddN xn yn≤c6:=hc6.out;rw[hab] at h;exact h
   have hr1:=hr1 c6 h6
   have hcutv:=hcutv c6 h6
   have hyc6:=hyc c6 h6
   have hr2:=fun cw=>hr2 (vsubN c6 xn) cw hyc6
   have hxc:0≤xI∧xI≤(Bn:Int):=by((try simp only[nc] at *);omega)
   cbv
   rw[hsby,hab,hon2,en]
   refine kcp 5 .u8 (by cbv;try exact⟨fun _=>rfl,trivial⟩) (by rfl) ?_
   refine ka (ρ:=[(5,.z),(6,.z)]) hr1 ⟨by rfl,by rfl,by rfl,by cbv;(repeat' first|(refine And.intro ?_ ?_)|exact trivial|exact⟨Nat.le_refl _⟩|exact kb _|exact fun _=>rfl|(simp only[renL3];done)|(show SB.roA _ _ _=SB.roA _ _ _;rfl)|exact funext fun _=>rfl)⟩ ?_
   rintro v H R js3 ⟨rfl,L,c7,c8,m,hm1,hm2,hm3,hm4,rfl,rfl⟩
   have hmN:m=N:=by omega
   subst hmN
   skip
   have hsL:vsub L 0 m=lt:=by rw[qsub];simp only[List.drop_zero];exact hm4
   have hlL:m≤vln L:=by rw[hlnq];exact hm3
   clear hr1 hm4
   cbv
   rw[n00]
   cbv
   rw[exn,exx]
   cbv
   refine⟨⟨by rw[ha0];exact hlL⟩,⟨by rw[ha0,hlla];exact hNn⟩,?_⟩
   rw[hsL,hsubA,hst,hnf]
   cbv
   rw[htx]
   refine⟨⟨hxc⟩,?_⟩
   rw[hsBy,em]
   generalize vcutN 0 xn c6=o6 at hcutv ⊢
   generalize vsubN c6 xn=y6 at hr2 ⊢
   refine ka (ρ:=[(5,.n o6),(6,.z)]) (hr2 0) ⟨by rfl,by rfl,by rfl,by cbv;exact⟨hcutv,kb _,trivial⟩⟩ ?_
   rintro v H R js4 ⟨rfl,L2,d7,d8,m2,k1,k2,k3,k4,rfl,rfl⟩
   have hmM:m2=M:=by omega
   subst hmM
   skip
   have hsL2:vsub L2 0 m2=mt:=by rw[qsub];simp only[List.drop_zero];exact k4
   have hlL2:m2≤vln L2:=by rw[hlnq];exact k3
   clear hr2 k4
   cbv
   rw[e00]
   cbv
   rw[eyn,eyy]
   cbv
   refine⟨⟨by rw[ha0];exact hlL2⟩,⟨by rw[ha0,hllb];exact hMm⟩,?_⟩
   rw[hsL2,hsubB,hst]
   cbv
   refine⟨⟨by rw[ha0,ln0];exact Nat.le_refl _⟩,⟨by rw[ha0,ln0];exact Nat.le_refl _⟩,?_⟩
   rw[hst]
   cbv
   refine ka (ρ:=[]) hwakes ⟨by rfl,by rfl,by rfl,by cbv⟩ ?_
   rintro v H R js9 ⟨rfl,rfl,rfl⟩
   cbv
  ·obtain⟨hTy,hyl,hy8,hl8⟩:=hwo _ _ _ _ y last hmtl hwy
   obtain⟨yn,hyn⟩:∃z,z=y.length:=⟨_,rfl⟩
   obtain⟨yI,hyI⟩:∃z:Int,z=yn:=⟨_,rfl⟩
   have eyn:vofN yn=yI:=by rw[qofN,hyI]
   rw[←hyn] at hcy ⊢
   obtain⟨rn,hrn⟩:∃z,z=last.length:=⟨_,rfl⟩
   rw[←hrn]
   have hlr:vln last=rn:=by rw[hlnq,hrn]
   have hsr:vsub last 0 rn=last:=hsub last rn hrn.symm
   obtain⟨B,hB⟩:∃z,z=x++y:=⟨_,rfl⟩
   obtain⟨Bn,hBn⟩:∃z,z=xn+yn:=⟨_,rfl⟩
   have hBl:B.length=Bn:=by rw[hB,List.length_append,←hxn,←hyn,hBn]
   have hB8:∀c∈B,kv c:=fun c hc=>by
    rw[hB] at hc
    exact(List.mem_append.1 hc).elim (hx8 c) (hy8 c)
   have hr1:=fun c (hcc:Bn≤c)=>hr1K x y B c xI (by rw[hxI,hxn]) hTx hB hB8 (by omega) (by omega)
   have hr2:=fun c cw (hcc:yn≤c)=>hr2O [] y last c cw yI (by rw[hyI,hyn]) hTy hy8 (by simp) (by decide) (by omega) (by omega)
   rw[hBl] at hr1
   rw[←hyn] at hr2
   skip
   have hvw:∀o,o=xn∨yn=0∧o≤B.length→kdP o y B:=fun o ho=>by
    have h:y=seg B xn yn:=by unfold seg;rw[hB,hxn,List.drop_left,hyn,List.take_length]
    rw[h];exact kdt (by omega) ho
   have hcutv:∀c,Bn≤c→kdP (vcutN 0 xn c) y B:=fun c hc=>hvw _ (by
    rw[qcutN]
    show(if c=xn then 0 else 0+xn)=xn∨yn=0∧(if c=xn then 0 else 0+xn)≤B.length
    by_cases h:c=xn
    ·simp only[if_pos h];omega
    ·simp only[if_neg h];omega)
   have hyc:∀c,Bn≤c→yn≤vsubN c xn:=fun c hc=>by
    have e:vsubN c xn=c-xn:=by rw[qsubN]
    omega
   have hab:vaddN xn yn=Bn:=by rw[qaddN,hBn]
   have hsBy:vsubN Bn xn=yn:=by
    have e:vsubN Bn xn=Bn-xn:=by rw[qsubN]
    omega
   have hlxx:vln x=xn:=by rw[hlnq,hxn]
   have hlyy:vln y=yn:=by rw[hlnq,hyn]
   have hon1:vonto [] 0 x=x:=by rw[qonto];simp
   have hon2:vonto x xn y=B:=by
    have e1:x.take xn=x:=by rw[hxn];exact List.take_length
    rw[qonto,hB];simp[e1]
   have hsbx:vsub x 0 xn=x:=hsub x xn hxn.symm
   have hsby:vsub y 0 yn=y:=hsub y yn hyn.symm
   have exx:vc .neq xI xI=false:=by rw[qc,ql];exact fun h=>h rfl
   have eyy:vc .eql yI yI=true:=by rw[qc,kF]
   have htx:vtoN xI=xn:=by rw[hxI,qtoN];simp
   have hxB:xn≤Bn:=by omega
   have hBn2:Bn≤100000000:=by omega
   have hxn2:xn≤100000000:=by omega
   clear h2 hwo hr1K hr1O hr2K hr2O hwy hTx hTy hB hBl hB8 hx8 hy8 hl8 hn8 hnxl hvw hsub
   cbv
   rw[n00]
   cbv
   rw[n00]
   cbv
   refine⟨⟨by rw[ha0,hlxx];exact Nat.le_refl _⟩,⟨by rw[ln0];exact Nat.le_refl _⟩,⟨by rw[ln0];exact Nat.le_refl _⟩,⟨by rw[ha0];((try simp only[nc] at *);omega)⟩,?_⟩
   intro c5 jv5 hc5
   have h5:xn≤c5:=by have h:vaddN 0 xn≤c5:=hc5.out;rw[ha0] at h;exact h
   cbv
   rw[hsbx,hon1,ha0 xn]
   refine⟨⟨by rw[ha0,hlyy];exact Nat.le_refl _⟩,⟨by rw[hlxx];exact Nat.le_refl _⟩,⟨Nat.le_refl _⟩,⟨by rw[hab];((try simp only[nc] at *);omega)⟩,?_⟩
   intro c6 jv6 hc6
   have h6:Bn≤c6:=by have h:vaddN xn yn≤c6:=hc6.out;rw[hab] at h;exact h
   have hr1:=hr1 c6 h6
   have hcutv:=hcutv c6 h6
   have hyc6:=hyc c6 h6
   have hr2:=fun cw=>hr2 (vsubN c6 xn) cw hyc6
   have hxc:0≤xI∧xI≤(Bn:Int):=by((try simp only[nc] at *);omega)
   cbv
   rw[hsby,hab,hon2,en]
   refine kcp 5 .u8 (by cbv;try exact⟨fun _=>rfl,trivial⟩) (by rfl) ?_
   refine ka (ρ:=[(6,.z),(7,.z)]) hr1 ⟨by rfl,by rfl,by rfl,by cbv;(repeat' first|(refine And.intro ?_ ?_)|exact trivial|exact⟨Nat.le_refl _⟩|exact kb _|exact fun _=>rfl|(simp only[renL3];done)|(show SB.roA _ _ _=SB.roA _ _ _;rfl)|exact funext fun _=>rfl)⟩ ?_
   rintro v H R js3 ⟨rfl,L,c7,c8,m,hm1,hm2,hm3,hm4,rfl,rfl⟩
   have hmN:m=N:=by omega
   subst hmN
   skip
   have hsL:vsub L 0 m=lt:=by rw[qsub];simp only[List.drop_zero];exact hm4
   have hlL:m≤vln L:=by rw[hlnq];exact hm3
   clear hr1 hm4
   cbv
   rw[n00]
   cbv
   rw[exn,exx]
   cbv
   refine⟨⟨by rw[ha0];exact hlL⟩,⟨by rw[ha0,hlla];exact hNn⟩,?_⟩
   rw[hsL,hsubA,hst,hnf]
   cbv
   rw[htx]
   refine⟨⟨hxc⟩,?_⟩
   rw[hsBy,em]
   generalize vcutN 0 xn c6=o6 at hcutv ⊢
   generalize vsubN c6 xn=y6 at hr2 ⊢
   refine ka (ρ:=[(6,.n o6),(7,.z)]) (hr2 0) ⟨by rfl,by rfl,by rfl,by cbv;exact⟨hcutv,kb _,trivial⟩⟩ ?_
   rintro v H R js4 ⟨rfl,L2,d7,d8,m2,k1,k2,k3,k4,z5,d9,hz5,rfl,rfl⟩
   have hmM:m2=M:=by omega
   subst hmM
   obtain rfl:z5=rn:=hz5.trans hrn.symm
   have hsL2:vsub L2 0 m2=mt:=by rw[qsub];simp only[List.drop_zero];exact k4
   have hlL2:m2≤vln L2:=by rw[hlnq];exact k3
   clear hr2 k4
   cbv
   rw[e00]
   cbv
   rw[eyn,eyy]
   cbv
   refine⟨⟨by rw[ha0];exact hlL2⟩,⟨by rw[ha0,hllb];exact hMm⟩,?_⟩
   rw[hsL2,hsubB,hst]
   cbv
   refine⟨⟨by rw[ha0,hlr];exact Nat.le_refl _⟩,⟨by rw[ha0,hlr];exact Nat.le_refl _⟩,?_⟩
   rw[hst]
   cbv
   refine ka (ρ:=[]) hwakes ⟨by rfl,by rfl,by rfl,by cbv⟩ ?_
   rintro v H R js9 ⟨rfl,rfl,rfl⟩
   cbv
 ·obtain⟨hTx,hxl,hx8,hn8⟩:=hwo _ _ _ _ x nxt hltl hwx
  obtain⟨xn,hxn⟩:∃z,z=x.length:=⟨_,rfl⟩
  obtain⟨xI,hxI⟩:∃z:Int,z=xn:=⟨_,rfl⟩
  have exn:vofN xn=xI:=by rw[qofN,hxI]
  have hnn:=hnxl _ _ _ _ (by omega) hTx
  obtain⟨qn,hqn⟩:∃z,z=nxt.length:=⟨_,rfl⟩
  have h2:=h2 nxt qn hn8 (by omega)
  rw[←hqn] at h2 ⊢
  have hlq:vln nxt=qn:=by rw[hlnq,hqn]
  have hsq:vsub nxt 0 qn=nxt:=hsub nxt qn hqn.symm
  rw[←hxn] at hcx ⊢
  clear h1 hwx
  cbv
  refine ka (ρ:=[(1,.z),(4,.z)]) h2 ⟨by rfl,by rfl,by rfl,by cbv;exact⟨hview2,kb _,trivial⟩⟩ ?_
  rintro v H R js2 ⟨rfl,y,last,cy,hcy,⟨hwy,hls,rfl,rfl⟩|⟨hwy,rfl,rfl⟩⟩
  ·obtain rfl:nxt=last:=hls.symm
   skip
   obtain⟨hTy,hyl,hy8,hl8⟩:=hwo _ _ _ _ y nxt hmtl hwy
   obtain⟨yn,hyn⟩:∃z,z=y.length:=⟨_,rfl⟩
   obtain⟨yI,hyI⟩:∃z:Int,z=yn:=⟨_,rfl⟩
   have eyn:vofN yn=yI:=by rw[qofN,hyI]
   rw[←hyn] at hcy ⊢
   obtain⟨B,hB⟩:∃z,z=x++y:=⟨_,rfl⟩
   obtain⟨Bn,hBn⟩:∃z,z=xn+yn:=⟨_,rfl⟩
   have hBl:B.length=Bn:=by rw[hB,List.length_append,←hxn,←hyn,hBn]
   have hB8:∀c∈B,kv c:=fun c hc=>by
    rw[hB] at hc
    exact(List.mem_append.1 hc).elim (hx8 c) (hy8 c)
   have hr1:=fun c (hcc:Bn≤c)=>hr1O x y B nxt c xI (by rw[hxI,hxn]) hTx hB hB8 (by omega) (by omega)
   have hr2:=fun c cw (hcc:yn≤c)=>hr2K nxt y c cw yI (by rw[hyI,hyn]) hTy hy8 hn8 (by omega) (by omega) (by omega)
   rw[hBl] at hr1
   rw[←hyn] at hr2
   rw[←hqn] at hr2
   have hvw:∀o,o=xn∨yn=0∧o≤B.length→kdP o y B:=fun o ho=>by
    have h:y=seg B xn yn:=by unfold seg;rw[hB,hxn,List.drop_left,hyn,List.take_length]
    rw[h];exact kdt (by omega) ho
   have hcutv:∀c,Bn≤c→kdP (vcutN 0 xn c) y B:=fun c hc=>hvw _ (by
    rw[qcutN]
    show(if c=xn then 0 else 0+xn)=xn∨yn=0∧(if c=xn then 0 else 0+xn)≤B.length
    by_cases h:c=xn
    ·simp only[if_pos h];omega
    ·simp only[if_neg h];omega)
   have hyc:∀c,Bn≤c→yn≤vsubN c xn:=fun c hc=>by
    have e:vsubN c xn=c-xn:=by rw[qsubN]
    omega
   have hab:vaddN xn yn=Bn:=by rw[qaddN,hBn]
   have hsBy:vsubN Bn xn=yn:=by
    have e:vsubN Bn xn=Bn-xn:=by rw[qsubN]
    omega
   have hlxx:vln x=xn:=by rw[hlnq,hxn]
   have hlyy:vln y=yn:=by rw[hlnq,hyn]
   have hon1:vonto [] 0 x=x:=by rw[qonto];simp
   have hon2:vonto x xn y=B:=by
    have e1:x.take xn=x:=by rw[hxn];exact List.take_length
    rw[qonto,hB];simp[e1]
   have hsbx:vsub x 0 xn=x:=hsub x xn hxn.symm
   have hsby:vsub y 0 yn=y:=hsub y yn hyn.symm
   have exx:vc .neq xI xI=false:=by rw[qc,ql];exact fun h=>h rfl
   have eyy:vc .eql yI yI=true:=by rw[qc,kF]
   have htx:vtoN xI=xn:=by rw[hxI,qtoN];simp
   have hxB:xn≤Bn:=by omega
   have hBn2:Bn≤100000000:=by omega
   have hxn2:xn≤100000000:=by omega
   clear h2 hwo hr1K hr1O hr2K hr2O hwy hTx hTy hB hBl hB8 hx8 hy8 hl8 hn8 hnxl hvw hsub
   cbv
   rw[n00]
   cbv
   rw[n00]
   cbv
   refine⟨⟨by rw[ha0,hlxx];exact Nat.le_refl _⟩,⟨by rw[ln0];exact Nat.le_refl _⟩,⟨by rw[ln0];exact Nat.le_refl _⟩,⟨by rw[ha0];((try simp only[nc] at *);omega)⟩,?_⟩
   intro c5 jv5 hc5
   have h5:xn≤c5:=by have h:vaddN 0 xn≤c5:=hc5.out;rw[ha0] at h;exact h
   cbv
   rw[hsbx,hon1,ha0 xn]
   refine⟨⟨by rw[ha0,hlyy];exact Nat.le_refl _⟩,⟨by rw[hlxx];exact Nat.le_refl _⟩,⟨Nat.le_refl _⟩,⟨by rw[hab];((try simp only[nc] at *);omega)⟩,?_⟩
   intro c6 jv6 hc6
   have h6:Bn≤c6:=by have h:vaddN xn yn≤c6:=hc6.out;rw[hab] at h;exact h
   have hr1:=hr1 c6 h6
   have hcutv:=hcutv c6 h6
   have hyc6:=hyc c6 h6
   have hr2:=fun cw=>hr2 (vsubN c6 xn) cw hyc6
   have hxc:0≤xI∧xI≤(Bn:Int):=by((try simp only[nc] at *);omega)
   cbv
   rw[hsby,hab,hon2,en]
   refine kcp 5 .u8 (by cbv;try exact⟨fun _=>rfl,trivial⟩) (by rfl) ?_
   refine ka (ρ:=[(6,.z),(7,.z)]) hr1 ⟨by rfl,by rfl,by rfl,by cbv;(repeat' first|(refine And.intro ?_ ?_)|exact trivial|exact⟨Nat.le_refl _⟩|exact kb _|exact fun _=>rfl|(simp only[renL3];done)|(show SB.roA _ _ _=SB.roA _ _ _;rfl)|exact funext fun _=>rfl)⟩ ?_
   rintro v H R js3 ⟨rfl,L,c7,c8,m,hm1,hm2,hm3,hm4,z3,c9,hz3,rfl,rfl⟩
   have hmN:m=N:=by omega
   subst hmN
   obtain rfl:z3=qn:=hz3.trans hqn.symm
   have hsL:vsub L 0 m=lt:=by rw[qsub];simp only[List.drop_zero];exact hm4
   have hlL:m≤vln L:=by rw[hlnq];exact hm3
   clear hr1 hm4
   cbv
   rw[n00]
   cbv
   rw[exn,exx]
   cbv
   refine⟨⟨by rw[ha0];exact hlL⟩,⟨by rw[ha0,hlla];exact hNn⟩,?_⟩
   rw[hsL,hsubA,hst,hnf]
   cbv
   rw[htx]
   refine⟨⟨hxc⟩,?_⟩
   rw[hsBy,em]
   generalize vcutN 0 xn c6=o6 at hcutv ⊢
   generalize vsubN c6 xn=y6 at hr2 ⊢
   refine ka (ρ:=[(6,.n o6),(9,.z)]) (hr2 c9) ⟨by rfl,by rfl,by rfl,by cbv;exact⟨hcutv,kb _,trivial⟩⟩ ?_
   rintro v H R js4 ⟨rfl,L2,d7,d8,m2,k1,k2,k3,k4,rfl,rfl⟩
   have hmM:m2=M:=by omega
   subst hmM
   skip
   have hsL2:vsub L2 0 m2=mt:=by rw[qsub];simp only[List.drop_zero];exact k4
   have hlL2:m2≤vln L2:=by rw[hlnq];exact k3
   clear hr2 k4
   cbv
   rw[e00]
   cbv
   rw[eyn,eyy]
   cbv
   refine⟨⟨by rw[ha0];exact hlL2⟩,⟨by rw[ha0,hllb];exact hMm⟩,?_⟩
   rw[hsL2,hsubB,hst]
   cbv
   refine⟨⟨by rw[ha0,hlq];exact Nat.le_refl _⟩,⟨by rw[ha0,hlq];exact Nat.le_refl _⟩,?_⟩
   rw[hst]
   cbv
   refine ka (ρ:=[]) hwakes ⟨by rfl,by rfl,by rfl,by cbv⟩ ?_
   rintro v H R js9 ⟨rfl,rfl,rfl⟩
   cbv
  ·obtain⟨hTy,hyl,hy8,hl8⟩:=hwo _ _ _ _ y last hmtl hwy
   obtain⟨yn,hyn⟩:∃z,z=y.length:=⟨_,rfl⟩
   obtain⟨yI,hyI⟩:∃z:Int,z=yn:=⟨_,rfl⟩
   have eyn:vofN yn=yI:=by rw[qofN,hyI]
   rw[←hyn] at hcy ⊢
   obtain⟨rn,hrn⟩:∃z,z=last.length:=⟨_,rfl⟩
   rw[←hrn]
   have hlr:vln last=rn:=by rw[hlnq,hrn]
   have hsr:vsub last 0 rn=last:=hsub last rn hrn.symm
   obtain⟨B,hB⟩:∃z,z=x++y:=⟨_,rfl⟩
   obtain⟨Bn,hBn⟩:∃z,z=xn+yn:=⟨_,rfl⟩
   have hBl:B.length=Bn:=by rw[hB,List.length_append,←hxn,←hyn,hBn]
   have hB8:∀c∈B,kv c:=fun c hc=>by
    rw[hB] at hc
    exact(List.mem_append.1 hc).elim (hx8 c) (hy8 c)
   have hr1:=fun c (hcc:Bn≤c)=>hr1O x y B nxt c xI (by rw[hxI,hxn]) hTx hB hB8 (by omega) (by omega)
   have hr2:=fun c cw (hcc:yn≤c)=>hr2O nxt y last c cw yI (by rw[hyI,hyn]) hTy hy8 hn8 (by omega) (by omega) (by omega)
   rw[hBl] at hr1
   rw[←hyn] at hr2
   rw[←hqn] at hr2
   have hvw:∀o,o=xn∨yn=0∧o≤B.length→kdP o y B:=fun o ho=>by
    have h:y=seg B xn yn:=by unfold seg;rw[hB,hxn,List.drop_left,hyn,List.take_length]
    rw[h];exact kdt (by omega) ho
   have hcutv:∀c,Bn≤c→kdP (vcutN 0 xn c) y B:=fun c hc=>hvw _ (by
    rw[qcutN]
    show(if c=xn then 0 else 0+xn)=xn∨yn=0∧(if c=xn then 0 else 0+xn)≤B.length
    by_cases h:c=xn
    ·simp only[if_pos h];omega
    ·simp only[if_neg h];omega)
   have hyc:∀c,Bn≤c→yn≤vsubN c xn:=fun c hc=>by
    have e:vsubN c xn=c-xn:=by rw[qsubN]
    omega
   have hab:vaddN xn yn=Bn:=by rw[qaddN,hBn]
   have hsBy:vsubN Bn xn=yn:=by
    have e:vsubN Bn xn=Bn-xn:=by rw[qsubN]
    omega
   have hlxx:vln x=xn:=by rw[hlnq,hxn]
   have hlyy:vln y=yn:=by rw[hlnq,hyn]
   have hon1:vonto [] 0 x=x:=by rw[qonto];simp
   have hon2:vonto x xn y=B:=by
    have e1:x.take xn=x:=by rw[hxn];exact List.take_length
    rw[qonto,hB];simp[e1]
   have hsbx:vsub x 0 xn=x:=hsub x xn hxn.symm
   have hsby:vsub y 0 yn=y:=hsub y yn hyn.symm
   have exx:vc .neq xI xI=false:=by rw[qc,ql];exact fun h=>h rfl
   have eyy:vc .eql yI yI=true:=by rw[qc,kF]
   have htx:vtoN xI=xn:=by rw[hxI,qtoN];simp
   have hxB:xn≤Bn:=by omega
   have hBn2:Bn≤100000000:=by omega
   have hxn2:xn≤100000000:=by omega
   clear h2 hwo hr1K hr1O hr2K hr2O hwy hTx hTy hB hBl hB8 hx8 hy8 hl8 hn8 hnxl hvw hsub
   cbv
   rw[n00]
   cbv
   rw[n00]
   cbv
   refine⟨⟨by rw[ha0,hlxx];exact Nat.le_refl _⟩,⟨by rw[ln0];exact Nat.le_refl _⟩,⟨by rw[ln0];exact Nat.le_refl _⟩,⟨by rw[ha0];((try simp only[nc] at *);omega)⟩,?_⟩
   intro c5 jv5 hc5
   have h5:xn≤c5:=by have h:vaddN 0 xn≤c5:=hc5.out;rw[ha0] at h;exact h
   cbv
   rw[hsbx,hon1,ha0 xn]
   refine⟨⟨by rw[ha0,hlyy];exact Nat.le_refl _⟩,⟨by rw[hlxx];exact Nat.le_refl _⟩,⟨Nat.le_refl _⟩,⟨by rw[hab];((try simp only[nc] at *);omega)⟩,?_⟩
   intro c6 jv6 hc6
   have h6:Bn≤c6:=by have h:vaddN xn yn≤c6:=hc6.out;rw[hab] at h;exact h
   have hr1:=hr1 c6 h6
   have hcutv:=hcutv c6 h6
   have hyc6:=hyc c6 h6
   have hr2:=fun cw=>hr2 (vsubN c6 xn) cw hyc6
   have hxc:0≤xI∧xI≤(Bn:Int):=by((try simp only[nc] at *);omega)
   cbv
   rw[hsby,hab,hon2,en]
   refine kcp 5 .u8 (by cbv;try exact⟨fun _=>rfl,trivial⟩) (by rfl) ?_
   refine ka (ρ:=[(7,.z),(8,.z)]) hr1 ⟨by rfl,by rfl,by rfl,by cbv;(repeat' first|(refine And.intro ?_ ?_)|exact trivial|exact⟨Nat.le_refl _⟩|exact kb _|exact fun _=>rfl|(simp only[renL3];done)|(show SB.roA _ _ _=SB.roA _ _ _;rfl)|exact funext fun _=>rfl)⟩ ?_
   rintro v H R js3 ⟨rfl,L,c7,c8,m,hm1,hm2,hm3,hm4,z3,c9,hz3,rfl,rfl⟩
   have hmN:m=N:=by omega
   subst hmN
   obtain rfl:z3=qn:=hz3.trans hqn.symm
   have hsL:vsub L 0 m=lt:=by rw[qsub];simp only[List.drop_zero];exact hm4
   have hlL:m≤vln L:=by rw[hlnq];exact hm3
   clear hr1 hm4
   cbv
   rw[n00]
   cbv
   rw[exn,exx]
   cbv
   refine⟨⟨by rw[ha0];exact hlL⟩,⟨by rw[ha0,hlla];exact hNn⟩,?_⟩
   rw[hsL,hsubA,hst,hnf]
   cbv
   rw[htx]
   refine⟨⟨hxc⟩,?_⟩
   rw[hsBy,em]
   generalize vcutN 0 xn c6=o6 at hcutv ⊢
   generalize vsubN c6 xn=y6 at hr2 ⊢
   refine ka (ρ:=[(7,.n o6),(10,.z)]) (hr2 c9) ⟨by rfl,by rfl,by rfl,by cbv;exact⟨hcutv,kb _,trivial⟩⟩ ?_
   rintro v H R js4 ⟨rfl,L2,d7,d8,m2,k1,k2,k3,k4,z5,d9,hz5,rfl,rfl⟩
   have hmM:m2=M:=by omega
   subst hmM
   obtain rfl:z5=rn:=hz5.trans hrn.symm
   have hsL2:vsub L2 0 m2=mt:=by rw[qsub];simp only[List.drop_zero];exact k4
   have hlL2:m2≤vln L2:=by rw[hlnq];exact k3
   clear hr2 k4
   cbv
   rw[e00]
   cbv
   rw[eyn,eyy]
   cbv
   refine⟨⟨by rw[ha0];exact hlL2⟩,⟨by rw[ha0,hllb];exact hMm⟩,?_⟩
   rw[hsL2,hsubB,hst]
   cbv
   refine⟨⟨by rw[ha0,hlr];exact Nat.le_refl _⟩,⟨by rw[ha0,hlr];exact Nat.le_refl _⟩,?_⟩
   rw[hst]
   cbv
   refine ka (ρ:=[]) hwakes ⟨by rfl,by rfl,by rfl,by cbv⟩ ?_
   rintro v H R js9 ⟨rfl,rfl,rfl⟩
   cbv
theorem own:ownKnob Try.prog.godebug=none:=by kernel_rfl
set_option maxRecDepth 100000 in
theorem lifted (os:Os) (started:os.Started) (H:Type) (enc:TypeId×Value→H) :
  ReturnsInHanded {} Try.checked os 9 .any (Rows.literalsTwiceSpec.pre6 enc Try.prog Try.f9 Rows.literalsTwiceRow.domain false) (Rows.literalsTwiceSpec.post enc Try.prog Try.f9 false true false false):=by
 refine returnsInHanded_of_change_sized (C:=Try.checked) own started (by kernel_rfl) Try.func9
  (ChangeSpec.witness6 (enc:=enc) (C:=Try.checked) false ⟨#[],#[.slice none 0 0,.slice none 0 0],[]⟩ 8 (by kernel_rfl) (by kernel_rfl) (by kernel_rfl) (by kernel_rfl)) ?_
 intro W base args ds gs before hval0 hW hcnd hz _
 have hval:∀(j:Nat) t v,Try.f9.params[j]?=some t→args[j]?=some v→Value.okWide Try.prog W .any base t v:=hval0
 have hW':=hW
 obtain⟨p,q,hA0,hV,rfl,hfz,hnd⟩:=hW
 have hA:DataW.TrodAll enc Try.prog W 0 (fun _=>true) true Try.f9.params.toList args.toList ds p:=hA0
 rw[Try.params9] at hA hval
 obtain⟨v0,vs0,d0,ds0,p0,q0,hargs0,rfl,rfl,h0,r0⟩:=trodAll_cons hA
 obtain⟨v1,vs1,d1,ds1,p1,q1,hargs1,rfl,rfl,h1,r1⟩:=trodAll_cons r0
 obtain⟨rfl,rfl,rfl⟩:=trodAll_nil r1
 obtain rfl:args=#[v0,v1]:=by cases args;simp_all
 obtain⟨rfl,rfl⟩:=trodVars_none hV
 obtain⟨s0,l0,cap0,rfl,lt0,ho0,hw0,hc0,hd0⟩:=kdW (P:=Try.prog) Try.underlying25 Try.underlying5 (by kernel_rfl) (hval 0 25 v0 rfl rfl) h0
 obtain⟨s1,l1,cap1,rfl,lt1,ho1,hw1,hc1,hd1⟩:=kdW (P:=Try.prog) Try.underlying25 Try.underlying5 (by kernel_rfl) (hval 1 25 v1 rfl rfl) h1
 have hb0:l0.length*1≤140737488351232:=by
  rcases hd0 with⟨_,rfl⟩|⟨rest,rfl⟩
  ·simp
  ·have h:=sized_slice hz (j:=0) (t:=25) (e:=5) rfl rfl Try.underlying25
   rw[show Try.checked.prog.bytesOf 5=1 by kernel_rfl,show reachBytes=140737488351232 by rfl] at h
   simp only[lits,List.length_map] at h
   omega
 have hb1:l1.length*1≤140737488351232:=by
  rcases hd1 with⟨_,rfl⟩|⟨rest,rfl⟩
  ·simp
  ·have h:=sized_slice hz (j:=1) (t:=25) (e:=5) rfl rfl Try.underlying25
   rw[show Try.checked.prog.bytesOf 5=1 by kernel_rfl,show reachBytes=140737488351232 by rfl] at h
   simp only[lits,List.length_map] at h
   omega
 refine(kl9 (kpV l0 l1 cap0 cap1 (fun c hc=>wf_u8 (hw0 c hc)) (fun c hc=>wf_u8 (hw1 c hc)) (by omega) (by omega) hc0 hc1) (by intro B hB;simp at hB;rcases hB with rfl|rfl<;>rfl) (kpc [(s0,.ro .u8 l0),(s1,.ro .u8 l1)] (by intro e he;simp at he;rcases he with rfl|rfl;exact⟨lt0,rfl,ho0⟩;exact⟨lt1,rfl,ho1⟩))).mono fun e W' ⟨he,hb⟩=>⟨_,he,?_⟩
 exact knT hW' rfl (by kernel_rfl) Try.underlying4 (by kernel_rfl) (by kernel_rfl) rfl rfl rfl hb

theorem over:Rows.literalsTwiceRow.holds Try.pinned (OpenSpec.ofChange Rows.literalsTwiceSpec):=
 OpenClaim.holds_of_wide 9 Try.f9 rfl rfl rfl rfl rfl rfl rfl ⟨rfl,rfl,rfl,rfl,rfl⟩ rfl rfl rfl rfl rfl (by kernel_rfl) Try.func9 (by kernel_rfl)
  (of_decide_eq_true (by kernel_rfl)) (by unfold Func.isWrapper;first|(rw[if_pos (by decide +kernel)];kernel_rfl)|(rw[if_neg (by decide +kernel)];exact⟨rfl,rfl⟩))
  (fun os started H enc _=>lifted os started H enc)

theorem proved:Rows.LiteralsTwiceSaid:=
 over
#print axioms proved
end Go.Proofs.Ytlclleihoampdaa.literalsTwice
