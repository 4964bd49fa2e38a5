/-
 For all literals, weights ahead and bytes behind of at most 1048576 each, balerlaw11.LiteralsBack returns true and leaves its arguments as they were.
-/
import Derived.Test.YtlclleihoampdaaA7
import Derived.Test.YtlclleihoampdaaED
namespace Go.Proofs.Ytlclleihoampdaa.literalsBack
open Go Go.Sx Go.ChangeShapes Go.WideShapes Go.ChangeAt Go.RowKit Go.Deep
set_option linter.unusedVariables false
theorem wf_u8 {x:Int} (h:(Lit.int .u8 x).wf=true):kv x:=by
 simp[Lit.wf,IntKind.min,IntKind.max,IntKind.signed,IntKind.bits] at h
 unfold kv
 omega
theorem kkP (l:List Int):(List.map (fun n=>UInt8.ofNat n.toNat) l==List.map (fun n=>UInt8.ofNat n.toNat) l)=true:=by simp
set_option maxHeartbeats 40000000 in
set_option maxRecDepth 100000 in
theorem kpV (lits w d:List Int) (cap cap2 cap3:Nat) (hl8:∀c∈lits,kv c) (hw8:∀c∈w,kv c) (hd8:∀c∈d,kv c) (hll:lits.length≤1048576) (hwl:w.length≤1048576) (hdl:d.length≤1048576) (hc0:lits.length≤cap) :
  Con Try.prog 8 [.slice 0 .z 1 lits.length cap,.slice 1 .z 1 w.length cap2,.slice 2 .z 1 d.length cap3] [.ro .u8 lits,.ro .u8 w,.ro .u8 d] (fun v H R=>v=.bool true∧H=[.ro .u8 lits,.ro .u8 w,.ro .u8 d]∧R=[]):=by
 have hwakes:=kjL
 by_cases hlong:131072<lits.length
 ·have h1:=khR lits w cap cap2 hlong (by omega)
  refine kj (kA 3 (by simp) (km (kg kr fn8 ?_)))
  intro vb vc vw vtoN vofN vaddN vsubN vmaxI vminI vcutN vgd vst vln vrep vsub vonto vsplice vstrEq vbyteV vnotB veqB hw qb qc qw qtoN qofN qaddN qsubN qmaxI qminI qcutN qgd qst qln qrep qsub qonto qsplice qstrEq qbyteV qnotB qeqB
  have hm:=kr;generalize Try.prog=P at *
  generalize hLn:lits.length=N at *
  generalize hwn:w.length=wn at *
  generalize hdn:d.length=dn at *
  obtain⟨nI,hnI⟩:∃x:Int,x=N:=⟨_,rfl⟩
  have en:vofN N=nI:=by rw[qofN,hnI]
  have hg:vc .gtr nI 131072=true:=by rw[qc,kz];omega
  have e00:vc .eql 0 0=true:=by rw[qc];rfl
  have e33:vc .eql 3 3=true:=by rw[qc];rfl
  cbv
  rw[en,hg]
  cbv
  refine ka (ρ:=[(0,.z),(1,.z)]) h1 ⟨by rfl,by rfl,by rfl,by cbv;(repeat' first|(refine And.intro ?_ ?_)|exact trivial|exact⟨Nat.le_refl _⟩|exact kb _|exact fun _=>rfl|(simp only[renL3];done)|(show SB.roA _ _ _=SB.roA _ _ _;rfl)|exact funext fun _=>rfl)⟩ ?_
  rintro v H R js ⟨rfl,rfl,rfl⟩
  cbv
  rw[e33]
  cbv
  refine ka (ρ:=[]) hwakes ⟨by rfl,by rfl,by rfl,by cbv⟩ ?_
  rintro v H R js9 ⟨rfl,rfl,rfl⟩
  cbv
 obtain⟨N,hN⟩:∃N,N=min lits.length 20000:=⟨_,rfl⟩
 obtain⟨lt,hlt⟩:∃l,l=lits.take N:=⟨_,rfl⟩
 have hltl:lt.length=N:=by rw[hlt,List.length_take];omega
 have hlt8:∀c∈lt,kv c:=fun c hc=>hl8 c (by rw[hlt] at hc;exact List.mem_of_mem_take hc)
 have h1:=kjM lt w cap cap2 hlt8 hw8 (by omega) (by omega) (by omega)
 have h2K:=fun(b nxt B:List Int) (c:Nat) (u:Int) (hu:u=(b.length:Nat)) (hT:kaS false w lt b nxt) (hB:B=b++d) (hB8:∀c∈B,kv c) (hBl:B.length≤140737488355328) (hcc:B.length≤c)=>knh B d c cap2 (lt.length:Int) u hu hT hB (Int.le_refl _) (by omega) hB8 hw8 hBl (by omega) hcc
 have h2O:=fun(b nxt B:List Int) (c:Nat) (u:Int) (hu:u=(b.length:Nat)) (hT:kaS true w lt b nxt) (hB:B=b++d) (hB8:∀c∈B,kv c) (hBl:B.length≤140737488355328) (hcc:B.length≤c)=>kni B d c cap2 (lt.length:Int) u hu hT hB (Int.le_refl _) (by omega) hB8 hw8 hBl (by omega) hcc
 have hview:kdP 0 lt lits:=⟨by rw[hltl];omega,fun i hi=>by
  rw[hltl] at hi
  rw[Nat.zero_add,hlt,List.getD_eq_getElem?_getD,List.getD_eq_getElem?_getD,List.getElem?_take,if_pos hi]⟩
 have hwo:∀f b nxt,khQ f w lt b nxt→kaS f w lt b nxt∧b.length≤N+3∧(∀c∈b,kv c):=fun f b nxt h=>⟨h.1,by have:=h.2.1;rw[hltl] at this;exact this,h.2.2.1⟩
 refine kj (kA 3 (by simp) (km (kg kr fn8 ?_)))
 intro vb vc vw vtoN vofN vaddN vsubN vmaxI vminI vcutN vgd vst vln vrep vsub vonto vsplice vstrEq vbyteV vnotB veqB hw qb qc qw qtoN qofN qaddN qsubN qmaxI qminI qcutN qgd qst qln qrep qsub qonto qsplice qstrEq qbyteV qnotB qeqB
 have hm:=kr;generalize Try.prog=P at *
 rw[hltl] at h1
 have hsub:∀(l:List Int) n,l.length=n→vsub l 0 n=l:=fun l n h=>by rw[qsub,←h];simp
 have hsubT:vsub lits 0 N=lt:=by rw[qsub,hlt];simp
 have hlnq:∀l,vln l=l.length:=fun l=>by simp only[qln]
 generalize hLn:lits.length=n0 at *
 generalize hwn:w.length=wn at *
 generalize hdn:d.length=dn at *
 have hw0:vsub w 0 wn=w:=hsub w wn hwn
 have hd0:vsub d 0 dn=d:=hsub d dn hdn
 obtain⟨n0I,hn0I⟩:∃x:Int,x=n0:=⟨_,rfl⟩
 have en0:vofN n0=n0I:=by rw[qofN,hn0I]
 obtain⟨nI,hnI⟩:∃x:Int,x=N:=⟨_,rfl⟩
 have en:vofN N=nI:=by rw[qofN,hnI]
 have htn:vtoN nI=N:=by rw[hnI,qtoN];simp
 have hg:vc .gtr n0I 131072=false:=by rw[qc,ku];omega
 have hmin:vminI n0I 20000=nI:=by rw[qminI];simp only[];split<;>omega
 have hst:∀l,vstrEq l l=true:=fun l=>by rw[qstrEq];exact kkP l
 have e00:vc .eql 0 0=true:=by rw[qc];rfl
 have n00:vc .neq 0 0=false:=by rw[qc];rfl
 have ha0:∀n,vaddN 0 n=n:=fun n=>by simp only[qaddN,Nat.zero_add]
 have hnC:0≤nI∧nI≤(cap:Int):=by omega
 have hadd3:vb .add .i64 nI 3=nI+3:=by rw[qb,kh (by omega) (by omega)]
 obtain⟨n3,hn3⟩:∃x:Int,x=nI+3:=⟨_,rfl⟩
 rw[←hn3] at hadd3
 have ln0:vln []=0:=by rw[qln];rfl
 have hllt:vln lits=n0:=by rw[hlnq];exact hLn
 have hlw:vln w=wn:=by rw[hlnq];exact hwn
 have hld:vln d=dn:=by rw[hlnq];exact hdn
 rw[hltl] at h2K h2O
 try simp only[nc] at h2K h2O
 rw[←hnI] at h2K h2O
 cbv
 rw[en0,hg]
 cbv
 rw[en0,hmin,htn]
 refine⟨⟨hnC⟩,?_⟩
 refine ka (ρ:=[(0,.z),(1,.z)]) h1 ⟨by rfl,by rfl,by rfl,by cbv;exact⟨hview,kb _,trivial⟩⟩ ?_
 rintro v H R js ⟨rfl,b,nxt,cb,hcb,⟨hwr,hnw,rfl,rfl⟩|⟨hwr,rfl,rfl⟩⟩
 ·obtain⟨hT,hbl,hb8⟩:=hwo _ b nxt hwr
  obtain⟨bn,hbn⟩:∃x,x=b.length:=⟨_,rfl⟩
  obtain⟨bI,hbI⟩:∃x:Int,x=bn:=⟨_,rfl⟩
  have ebn:vofN bn=bI:=by rw[qofN,hbI]
  obtain⟨B,hB⟩:∃x,x=b++d:=⟨_,rfl⟩
  obtain⟨Bn,hBn⟩:∃x,x=bn+dn:=⟨_,rfl⟩
  have hBl:B.length=Bn:=by rw[hB,List.length_append,←hbn,hdn,hBn]
  have hB8:∀c∈B,kv c:=fun c hc=>by
   rw[hB] at hc
   exact(List.mem_append.1 hc).elim (hb8 c) (hd8 c)
  have hgt:vc .gtr bI n3=false:=by rw[qc,ku];((try simp only[nc] at *);omega)
  have hrd:=fun c=>h2K b nxt B c bI (by rw[hbI,hbn]) hT hB hB8 (by omega)
  rw[hBl] at hrd
  have hab:vaddN bn dn=Bn:=by rw[qaddN,hBn]
  have hlb:vln b=bn:=by rw[hlnq,hbn]
  have hon1:vonto [] 0 b=b:=by rw[qonto];simp
  have hon2:vonto b bn d=B:=by
   have e1:b.take bn=b:=by rw[hbn];exact List.take_length
   rw[qonto,hB];simp[e1]
  have hsb:vsub b 0 bn=b:=hsub b bn hbn.symm
  have ebb:vc .eql bI bI=true:=by rw[qc,kF]
  have hBn2:Bn≤100000000:=by omega
  have hbn2:bn≤100000000:=by omega
  obtain⟨xn,hxn⟩:∃x,x=nxt.length:=⟨_,rfl⟩
  have hsx:vsub nxt 0 xn=nxt:=hsub nxt xn hxn.symm
  have hlx:vln nxt=xn:=by rw[hlnq,hxn]
  rw[←hbn] at hcb ⊢
  clear h1 h2K h2O hwo hwr hT hb8 hB8 hB hBl hsub
  cbv
  rw[n00]
  cbv
  rw[ebn,en,hadd3,hgt]
  cbv
  refine⟨⟨by rw[ha0,hlb];exact Nat.le_refl _⟩,⟨by rw[ln0];exact Nat.le_refl _⟩,⟨by rw[ln0];exact Nat.le_refl _⟩,⟨by rw[ha0];((try simp only[nc] at *);omega)⟩,?_⟩
  intro c5 jv5 hc5
  have h5:bn≤c5:=by have h:vaddN 0 bn≤c5:=hc5.out;rw[ha0] at h;exact h
  cbv
  rw[hsb,hon1,ha0 bn]
  refine⟨⟨by rw[ha0,hld];exact Nat.le_refl _⟩,⟨by rw[hlb];exact Nat.le_refl _⟩,⟨Nat.le_refl _⟩,⟨by rw[hab];((try simp only[nc] at *);omega)⟩,?_⟩
  intro c6 jv6 hc6
  have h6:Bn≤c6:=by have h:vaddN bn dn≤c6:=hc6.out;rw[hab] at h;exact h
  have hrd:=hrd c6 h6
  cbv
  rw[hd0,hab,hon2,en]
  refine ka (ρ:=[(4,.z),(1,.z)]) hrd ⟨by rfl,by rfl,by rfl,by cbv;(repeat' first|(refine And.intro ?_ ?_)|exact trivial|exact⟨Nat.le_refl _⟩|exact kb _|exact fun _=>rfl|(simp only[renL3];done)|(show SB.roA _ _ _=SB.roA _ _ _;rfl)|exact funext fun _=>rfl)⟩ ?_
  rintro v H R js2 ⟨rfl,L,c7,c8,m,hm1,hm2,hm3,hm4,rfl,rfl⟩
  ·have hmN:m=N:=by((try simp only[nc] at *);omega)
   subst hmN
   have hsL:vsub L 0 m=lt:=by rw[qsub];simp only[List.drop_zero];exact hm4
   have hlL:m≤vln L:=by rw[hlnq];exact hm3
   skip
   clear hrd
   cbv
   rw[e00]
   cbv
   refine⟨⟨by rw[ha0];exact hlL⟩,⟨by rw[ha0,hllt];((try simp only[nc] at *);omega)⟩,?_⟩
   rw[hsL,hsubT,hst]
   cbv
   refine⟨⟨by rw[ha0,hlw];exact Nat.le_refl _⟩,⟨by rw[ha0,hlw];exact Nat.le_refl _⟩,?_⟩
   rw[hw0,hst]
   cbv
   rw[ebn,ebb]
   cbv
   refine ka (ρ:=[]) hwakes ⟨by rfl,by rfl,by rfl,by cbv⟩ ?_
   rintro v H R js9 ⟨rfl,rfl,rfl⟩
   cbv
 ·obtain⟨hT,hbl,hb8⟩:=hwo _ b nxt hwr
  obtain⟨bn,hbn⟩:∃x,x=b.length:=⟨_,rfl⟩
  obtain⟨bI,hbI⟩:∃x:Int,x=bn:=⟨_,rfl⟩
  have ebn:vofN bn=bI:=by rw[qofN,hbI]
  obtain⟨B,hB⟩:∃x,x=b++d:=⟨_,rfl⟩
  obtain⟨Bn,hBn⟩:∃x,x=bn+dn:=⟨_,rfl⟩
  have hBl:B.length=Bn:=by rw[hB,List.length_append,←hbn,hdn,hBn]
  have hB8:∀c∈B,kv c:=fun c hc=>by
   rw[hB] at hc
   exact(List.mem_append.1 hc).elim (hb8 c) (hd8 c)
  have hgt:vc .gtr bI n3=false:=by rw[qc,ku];((try simp only[nc] at *);omega)
  have hrd:=fun c=>h2O b nxt B c bI (by rw[hbI,hbn]) hT hB hB8 (by omega)
  rw[hBl] at hrd
  have hab:vaddN bn dn=Bn:=by rw[qaddN,hBn]
  have hlb:vln b=bn:=by rw[hlnq,hbn]
  have hon1:vonto [] 0 b=b:=by rw[qonto];simp
  have hon2:vonto b bn d=B:=by
   have e1:b.take bn=b:=by rw[hbn];exact List.take_length
   rw[qonto,hB];simp[e1]
  have hsb:vsub b 0 bn=b:=hsub b bn hbn.symm
  have ebb:vc .eql bI bI=true:=by rw[qc,kF]
  have hBn2:Bn≤100000000:=by omega
  have hbn2:bn≤100000000:=by omega
  obtain⟨xn,hxn⟩:∃x,x=nxt.length:=⟨_,rfl⟩
  have hsx:vsub nxt 0 xn=nxt:=hsub nxt xn hxn.symm
  have hlx:vln nxt=xn:=by rw[hlnq,hxn]
  rw[←hbn] at hcb ⊢
  rw[←hxn]
  clear h1 h2K h2O hwo hwr hT hb8 hB8 hB hBl hsub
  cbv
  rw[n00]
  cbv
  rw[ebn,en,hadd3,hgt]
  cbv
  refine⟨⟨by rw[ha0,hlb];exact Nat.le_refl _⟩,⟨by rw[ln0];exact Nat.le_refl _⟩,⟨by rw[ln0];exact Nat.le_refl _⟩,⟨by rw[ha0];((try simp only[nc] at *);omega)⟩,?_⟩
  intro c5 jv5 hc5
  have h5:bn≤c5:=by have h:vaddN 0 bn≤c5:=hc5.out;rw[ha0] at h;exact h
  cbv
  rw[hsb,hon1,ha0 bn]
  refine⟨⟨by rw[ha0,hld];exact Nat.le_refl _⟩,⟨by rw[hlb];exact Nat.le_refl _⟩,⟨Nat.le_refl _⟩,⟨by rw[hab];((try simp only[nc] at *);omega)⟩,?_⟩
  intro c6 jv6 hc6
  have h6:Bn≤c6:=by have h:vaddN bn dn≤c6:=hc6.out;rw[hab] at h;exact h
  have hrd:=hrd c6 h6
  cbv
  rw[hd0,hab,hon2,en]
  refine ka (ρ:=[(5,.z),(1,.z)]) hrd ⟨by rfl,by rfl,by rfl,by cbv;(repeat' first|(refine And.intro ?_ ?_)|exact trivial|exact⟨Nat.le_refl _⟩|exact kb _|exact fun _=>rfl|(simp only[renL3];done)|(show SB.roA _ _ _=SB.roA _ _ _;rfl)|exact funext fun _=>rfl)⟩ ?_
  rintro v H R js2 ⟨rfl,L,c7,c8,m,hm1,hm2,hm3,hm4,x3,c9,hx3,rfl,rfl⟩
  ·have hmN:m=N:=by((try simp only[nc] at *);omega)
   subst hmN
   have hsL:vsub L 0 m=lt:=by rw[qsub];simp only[List.drop_zero];exact hm4
   have hlL:m≤vln L:=by rw[hlnq];exact hm3
   obtain rfl:x3=xn:=hx3.trans hxn.symm
   clear hrd
   cbv
   rw[e00]
   cbv
   refine⟨⟨by rw[ha0];exact hlL⟩,⟨by rw[ha0,hllt];((try simp only[nc] at *);omega)⟩,?_⟩
   rw[hsL,hsubT,hst]
   cbv
   refine⟨⟨by rw[ha0,hlx];exact Nat.le_refl _⟩,⟨by rw[ha0,hlx];exact Nat.le_refl _⟩,?_⟩
   rw[hsx,hst]
   cbv
   rw[ebn,ebb]
   cbv
   refine ka (ρ:=[]) hwakes ⟨by rfl,by rfl,by rfl,by cbv⟩ ?_
   rintro v H R js9 ⟨rfl,rfl,rfl⟩
   cbv

theorem own:ownKnob Try.prog.godebug=none:=by kernel_rfl
theorem khc {H:Type} (k:IntKind):∀(l:List Int),Rows.uptoBulkAll (H:=H) (lits k l)=l.length
 |[]=>rfl
 |n::l=>by
  have:=khc (H:=H) k l
  simp only[lits,List.map_cons,Rows.uptoBulkAll,Rows.uptoBulk,List.length_cons] at this ⊢
  omega
theorem khS {H:Type} {k:IntKind} {l:List Int} {d:DataW H} (h:(d=.nil∧l=[])∨∃rest,d=.slice (lits k l) rest):l.length≤Rows.uptoBulk d:=by
 rcases h with⟨_,rfl⟩|⟨rest,rfl⟩
 ·exact Nat.zero_le _
 ·have:=khc (H:=H) k l
  simp only[Rows.uptoBulk]
  omega
set_option maxRecDepth 100000 in
theorem lifted (os:Os) (started:os.Started) (H:Type) (enc:TypeId×Value→H) (F:Stop.Interp) :
  ReturnsInHanded {} Try.checked os 8 .any ((Rows.OpenSpec.upto Rows.literalsBackSpec).pre6 enc Try.prog Try.f8 Rows.literalsBackUptoRow.domain false) (((Rows.OpenSpec.upto Rows.literalsBackSpec).at F).post enc Try.prog Try.f8 false true false false):=by
 refine returnsInHanded_of_cond (C:=Try.checked) (s:=Rows.OpenSpec.upto Rows.literalsBackSpec) (k:=Rows.uptoSmall) rfl own started (by kernel_rfl) Try.func8
  (OpenSpec.witness (enc:=enc) (C:=Try.checked) (s:=Rows.OpenSpec.upto Rows.literalsBackSpec) (k:=Rows.uptoSmall) rfl false ⟨#[],#[.slice none 0 0,.slice none 0 0,.slice none 0 0],[]⟩ 8 (by kernel_rfl) (by kernel_rfl) (by kernel_rfl)
   (x:=([.nil,.nil,.nil],[],[])) (by kernel_rfl) rfl (by kernel_rfl)) ?_
 intro W base args ds gs before hval0 hW _ hk _
 have hval:∀(j:Nat) t v,Try.f8.params[j]?=some t→args[j]?=some v→Value.okWide Try.prog W .any base t v:=hval0
 have hW':=hW
 obtain⟨p,q,hA0,hV,rfl,hfz,hnd⟩:=hW
 have hA:DataW.TrodAll enc Try.prog W 0 (fun _=>true) true Try.f8.params.toList args.toList ds p:=hA0
 rw[Try.params8] at hA hval
 obtain⟨v0,vs0,d0,ds0,p0,q0,hargs0,rfl,rfl,h0,r0⟩:=trodAll_cons hA
 obtain⟨v1,vs1,d1,ds1,p1,q1,hargs1,rfl,rfl,h1,r1⟩:=trodAll_cons r0
 obtain⟨v2,vs2,d2,ds2,p2,q2,hargs2,rfl,rfl,h2,r2⟩:=trodAll_cons r1
 obtain⟨rfl,rfl,rfl⟩:=trodAll_nil r2
 obtain rfl:args=#[v0,v1,v2]:=by cases args;simp_all
 obtain⟨rfl,rfl⟩:=trodVars_none hV
 obtain⟨s0,l0,cap0,rfl,lt0,ho0,hw0,hc0,hd0⟩:=kdW (P:=Try.prog) Try.underlying25 Try.underlying5 (by kernel_rfl) (hval 0 25 v0 rfl rfl) h0
 obtain⟨s1,l1,cap1,rfl,lt1,ho1,hw1,hc1,hd1⟩:=kdW (P:=Try.prog) Try.underlying25 Try.underlying5 (by kernel_rfl) (hval 1 25 v1 rfl rfl) h1
 obtain⟨s2,l2,cap2,rfl,lt2,ho2,hw2,hc2,hd2⟩:=kdW (P:=Try.prog) Try.underlying25 Try.underlying5 (by kernel_rfl) (hval 2 25 v2 rfl rfl) h2
 have hbulk:=of_decide_eq_true hk
 simp only[List.cons_append,List.nil_append,Rows.uptoBulkAll] at hbulk
 have hb0:=khS hd0
 have hb1:=khS hd1
 have hb2:=khS hd2
 refine(kl9 (kpV l0 l1 l2 cap0 cap1 cap2 (fun c hc=>wf_u8 (hw0 c hc)) (fun c hc=>wf_u8 (hw1 c hc)) (fun c hc=>wf_u8 (hw2 c hc)) (by omega) (by omega) (by omega) hc0) (by intro B hB;simp at hB;rcases hB with rfl|rfl|rfl<;>rfl) (kpc [(s0,.ro .u8 l0),(s1,.ro .u8 l1),(s2,.ro .u8 l2)] (by intro e he;simp at he;rcases he with rfl|rfl|rfl;exact⟨lt0,rfl,ho0⟩;exact⟨lt1,rfl,ho1⟩;exact⟨lt2,rfl,ho2⟩))).mono fun e W' ⟨he,hb⟩=>⟨_,he,?_⟩
 exact knT (s:=Rows.literalsBackSpec) hW' rfl (by kernel_rfl) Try.underlying4 (by kernel_rfl) (by kernel_rfl) rfl rfl rfl hb

theorem over:Rows.literalsBackUptoRow.holds Try.pinned (Rows.OpenSpec.upto Rows.literalsBackSpec):=
 OpenClaim.holds_of_cond 8 Try.f8 rfl rfl rfl rfl rfl rfl rfl ⟨rfl,rfl,rfl,rfl,rfl⟩ rfl rfl rfl rfl rfl (by kernel_rfl) Try.func8 (by kernel_rfl)
  (of_decide_eq_true (by kernel_rfl)) (by unfold Func.isWrapper;first|(rw[if_pos (by decide +kernel)];kernel_rfl)|(rw[if_neg (by decide +kernel)];exact⟨rfl,rfl⟩))
  (fun os started H enc _ F=>lifted os started H enc F)

theorem proved:Rows.LiteralsBackUptoSaid:=
 over
#print axioms proved
end Go.Proofs.Ytlclleihoampdaa.literalsBack
