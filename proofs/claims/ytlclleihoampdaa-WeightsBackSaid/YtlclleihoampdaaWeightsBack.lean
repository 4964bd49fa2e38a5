/-
 For all weights and all bytes behind, balerlaw09.WeightsBack returns true and leaves its arguments as they were. No condition.
-/
import Derived.Test.YtlclleihoampdaaB7
import Derived.Test.YtlclleihoampdaaFD
namespace Go.Proofs.Ytlclleihoampdaa.weightsBack
open Go Go.Sx Go.ChangeShapes Go.WideShapes Go.ChangeAt Go.RowKit Go.Deep
set_option linter.unusedVariables false
theorem wf_u8 {x:Int} (h:(Lit.int .u8 x).wf=true):kR x:=by
 simp[Lit.wf,IntKind.min,IntKind.max,IntKind.signed,IntKind.bits] at h
 unfold kR
 omega
theorem kjd (l:List Int):(List.map (fun n=>UInt8.ofNat n.toNat) l==List.map (fun n=>UInt8.ofNat n.toNat) l)=true:=by simp
theorem kmQ {l:List Int} {M:Nat} (hl:∀c∈l,kR c) (hW:Wt l M) (h130:130≤l.length):¬kgy (l.take (l.length-1)):=by
 obtain⟨n,hn⟩:∃n,l.length=n+1:=⟨l.length-1,by omega⟩
 have hlt:(l.take (l.length-1)).length=n:=by rw[List.length_take];omega
 have hg:∀i,i<n→(l.take (l.length-1)).getD i 0=l.getD i 0:=fun i hi=>by
  rw[List.getD_eq_getElem?_getD,List.getD_eq_getElem?_getD,List.getElem?_take,if_pos (by omega)]
 have h256:=hW.2.1
 refine knE (by omega) (by omega) (fun i hi=>?_) ?_
 ·rw[hlt] at hi
  rw[hg i hi]
  exact⟨kck hl i,hW.2.2.2.1 i (by omega)⟩
 ·have hsm:∀i,i≤n→sm (l.take (l.length-1)) i=sm l i:=by
   intro i
   induction i with
   |zero=>intro _;rfl
   |succ i ih=>intro hi;rw[sm,sm,ih (by omega),hg i (by omega)]
  rw[hlt,hsm n (Nat.le_refl _)]
  have h6:=hW.2.2.2.2.2.1
  rw[hn,sm] at h6
  have hM:(2:Int)^M≤2^11:=by exact_mod_cast Nat.pow_le_pow_right (by decide:1≤2) hW.2.2.2.2.2.2
  have h3:=hW.2.2.1
  rw[show l.length-1=n by omega] at h3
  have hx0:=kck hl n
  have hp:1≤pw (l.getD n 0):=by
   unfold pw
   rw[if_neg (by omega)]
   have:(0:Int)<2^(l.getD n 0-1).toNat:=Int.pow_pos (by decide)
   omega
  omega
set_option maxHeartbeats 40000000 in
set_option maxRecDepth 100000 in
theorem knF (l d:List Int) (cap cap2:Nat) (hl8:∀c∈l,kR c) (hd8:∀c∈d,kR c) (hll:l.length≤140737488355328) (hdl:d.length≤140737488354000) (hc0:l.length≤cap) :
  Con Try.prog 7 [.slice 0 .z 1 l.length cap,.slice 1 .z 1 d.length cap2] [.ro .u8 l,.ro .u8 d] (fun v H R=>v=.bool true∧H=[.ro .u8 l,.ro .u8 d]∧R=[]):=by
 have hwakes:=kio
 by_cases hW:∃M,Wt l M
 rotate_left
 ·have h1:=kgB l cap hl8 hll (fun M h=>hW ⟨M,h⟩)
  have h2:=kcV l cap 0 hl8 hll (.inr ⟨fun M h=>hW ⟨M,h⟩,rfl⟩)
  refine kw (kV 2 (by simp) (kH (kl kD fn7 ?_)))
  intro vb vc vw vtoN vofN vaddN vsubN vmaxI vminI vcutN vgd vst vln vrep vsub vonto vsplice vstrEq vbyteV vnotB veqB hw qb qc qw qtoN qofN qaddN qsubN qmaxI qminI qcutN qgd qst qln qrep qsub qonto qsplice qstrEq qbyteV qnotB qeqB
  have hm:=kD;generalize Try.prog=P at *
  generalize hLn:l.length=n at *
  generalize hdn:d.length=dn at *
  have e00:vc .eql 0 0=true:=by rw[qc];rfl
  have e50:vc .eql 50 50=true:=by rw[qc];rfl
  cbv
  refine ka (ρ:=[(0,.z)]) h1 ⟨by rfl,by rfl,by rfl,by cbv;(repeat' first|(refine And.intro ?_ ?_)|exact trivial|exact⟨Nat.le_refl _⟩|exact kd _|exact fun _=>rfl|(simp only[renL3];done)|(show SB.roA _ _ _=SB.roA _ _ _;rfl)|exact funext fun _=>rfl)⟩ ?_
  rintro v H R js ⟨rfl,rfl,rfl⟩
  cbv
  refine ka (ρ:=[(0,.z)]) h2 ⟨by rfl,by rfl,by rfl,by cbv;(repeat' first|(refine And.intro ?_ ?_)|exact trivial|exact⟨Nat.le_refl _⟩|exact kd _|exact fun _=>rfl|(simp only[renL3];done)|(show SB.roA _ _ _=SB.roA _ _ _;rfl)|exact funext fun _=>rfl)⟩ ?_
  rintro v H R js ⟨rfl,rfl,rfl⟩
  cbv
  rw[e00]
  cbv
  rw[e50]
  cbv
  refine ka (ρ:=[]) hwakes ⟨by rfl,by rfl,by rfl,by cbv⟩ ?_
  rintro v H R js9 ⟨rfl,rfl,rfl⟩
  cbv
 obtain⟨M,hW⟩:=hW
 have hn256:=hW.2.1
 have h1:=kih l cap M hl8 hW hc0
 have h2:=kcV l cap M hl8 hll (.inl ⟨M,hW,rfl⟩)
 have hnil:=fun h=>kmQ hl8 hW h
 have h3:=fun(b B:List Int) (c:Nat) (u:Int) (hu:u=(b.length:Nat)) (hD:q5 l b) (hB:B=b++d) (hB8:∀c∈B,kR c) (hBl:B.length≤140737488355328) (hcc:B.length≤c)=>kfW B d c u hD hB hu hB8 hBl hcc
 have hdf:∀b,q5 l b→(∀c∈b,kR c)∧b.length≤129:=fun b h=>⟨h.1,h.2.2.1⟩
 have hM1:=hW.pos
 refine kw (kV 2 (by simp) (kH (kl kD fn7 ?_)))
 intro vb vc vw vtoN vofN vaddN vsubN vmaxI vminI vcutN vgd vst vln vrep vsub vonto vsplice vstrEq vbyteV vnotB veqB hw qb qc qw qtoN qofN qaddN qsubN qmaxI qminI qcutN qgd qst qln qrep qsub qonto qsplice qstrEq qbyteV qnotB qeqB
 have hm:=kD;generalize Try.prog=P at *
 have hsub:∀(l:List Int) n,l.length=n→vsub l 0 n=l:=fun l n h=>by rw[qsub,←h];simp
 have hlnq:∀l,vln l=l.length:=fun l=>by simp only[qln]
 generalize hDO:q5 l=DO at *
 generalize kgy=NT at *
 generalize hLn:l.length=n at *
 generalize hdn:d.length=dn at *
 obtain⟨mI,hmI⟩:∃x:Int,x=M:=⟨_,rfl⟩
 rw[←hmI] at h2
 have hsl:vsub l 0 n=l:=hsub l n hLn
 have hsd:vsub d 0 dn=d:=hsub d dn hdn
 have hst:∀l,vstrEq l l=true:=fun l=>by rw[qstrEq];exact kjd l
 have e00:vc .eql 0 0=true:=by rw[qc];rfl
 have em0:vc .eql mI 0=false:=by rw[qc,ky];omega
 have ha0:∀n,vaddN 0 n=n:=fun n=>by simp only[qaddN,Nat.zero_add]
 have ln0:vln []=0:=by rw[qln];rfl
 have hll2:vln l=n:=by rw[hlnq];exact hLn
 have hld:vln d=dn:=by rw[hlnq];exact hdn
 clear hW
 cbv
 refine ka (ρ:=[(0,.z)]) h1 ⟨by rfl,by rfl,by rfl,by cbv;(repeat' first|(refine And.intro ?_ ?_)|exact trivial|exact⟨Nat.le_refl _⟩|exact kd _|exact fun _=>rfl|(simp only[renL3];done)|(show SB.roA _ _ _=SB.roA _ _ _;rfl)|exact funext fun _=>rfl)⟩ ?_
 rintro v H R js ⟨rfl,⟨h130,hno,rfl,rfl⟩|⟨b,cb,hD,hcb,rfl,rfl⟩⟩
 ·exfalso;exact hnil h130 hno
 obtain⟨hb8,hb129⟩:=hdf b hD
 obtain⟨bn,hbn⟩:∃x,x=b.length:=⟨_,rfl⟩
 obtain⟨bI,hbI⟩:∃x:Int,x=bn:=⟨_,rfl⟩
 have ebn:vofN bn=bI:=by rw[qofN,hbI]
 obtain⟨B,hB⟩:∃x,x=b++d:=⟨_,rfl⟩
 obtain⟨Bn,hBn⟩:∃x,x=bn+dn:=⟨_,rfl⟩
 have hBl:B.length=Bn:=by rw[hB,List.length_append,←hbn,hdn,hBn]
 have hB8:∀c∈B,kR c:=fun c hc=>by
  rw[hB] at hc
  exact(List.mem_append.1 hc).elim (hb8 c) (hd8 c)
 have hBn2:Bn*1≤140737488355328:=by omega
 have hrd:=fun c=>h3 b B c bI (by rw[hbI,hbn]) hD hB hB8 (by omega)
 rw[hBl] at hrd
 have hle:vc .leq bI 129=true:=by rw[qc,kay];omega
 have hab:vaddN bn dn=Bn:=by rw[qaddN,hBn]
 have hlb:vln b=bn:=by rw[hlnq,hbn]
 have hon1:vonto [] 0 b=b:=by rw[qonto];simp
 have hon2:vonto b bn d=B:=by
  have e1:b.take bn=b:=by rw[hbn];exact List.take_length
  rw[qonto,hB];simp[e1]
 have hsb:vsub b 0 bn=b:=hsub b bn hbn.symm
 have ebb:vc .eql bI bI=true:=by rw[qc,kJ]
 have hbn2:bn*1≤140737488355328:=by omega
 rw[←hbn] at hcb ⊢
 clear h1 h3 hdf hD hb8 hB8 hB hBl hsub hnil hBn
 cbv
 refine ka (ρ:=[(0,.z)]) h2 ⟨by rfl,by rfl,by rfl,by cbv;(repeat' first|(refine And.intro ?_ ?_)|exact trivial|exact⟨Nat.le_refl _⟩|exact kd _|exact fun _=>rfl|(simp only[renL3];done)|(show SB.roA _ _ _=SB.roA _ _ _;rfl)|exact funext fun _=>rfl)⟩ ?_
 rintro v H R js2 ⟨rfl,rfl,rfl⟩
 cbv
 rw[em0]
 cbv
 refine⟨⟨by rw[ha0,hlb];exact Nat.le_refl _⟩,⟨by rw[ln0];exact Nat.le_refl _⟩,⟨by rw[ln0];exact Nat.le_refl _⟩,⟨by rw[ha0];exact hbn2⟩,?_⟩
 intro c5 jv5 hc5
 have h5:bn≤c5:=by have h:vaddN 0 bn≤c5:=hc5.out;rw[ha0] at h;exact h
 cbv
 rw[hsb,hon1,ha0 bn]
 refine⟨⟨by rw[ha0,hld];exact Nat.le_refl _⟩,⟨by rw[hlb];exact Nat.le_refl _⟩,⟨Nat.le_refl _⟩,⟨by rw[hab];exact hBn2⟩,?_⟩
 intro c6 jv6 hc6
 have h6:Bn≤c6:=by have h:vaddN bn dn≤c6:=hc6.out;rw[hab] at h;exact h
 have hrd:=hrd c6 h6
 cbv
 rw[hsd,hab,hon2]
 refine ka (ρ:=[(3,.z)]) hrd ⟨by rfl,by rfl,by rfl,by cbv;(repeat' first|(refine And.intro ?_ ?_)|exact trivial|exact⟨Nat.le_refl _⟩|exact kd _|exact fun _=>rfl|(simp only[renL3];done)|(show SB.roA _ _ _=SB.roA _ _ _;rfl)|exact funext fun _=>rfl)⟩ ?_
 rintro v H R js3 ⟨rfl,c7,rfl,rfl⟩
 clear hrd
 cbv
 rw[e00]
 cbv
 rw[ebn,hle]
 cbv
 rw[e00]
 cbv
 rw[ebn,ebb]
 cbv
 refine⟨⟨by rw[ha0,hll2];exact Nat.le_refl _⟩,⟨by rw[ha0,hll2];exact Nat.le_refl _⟩,?_⟩
 rw[hsl,hst]
 cbv
 refine ka (ρ:=[]) hwakes ⟨by rfl,by rfl,by rfl,by cbv⟩ ?_
 rintro v H R js9 ⟨rfl,rfl,rfl⟩
 cbv
theorem own:ownKnob Try.prog.godebug=none:=by kernel_rfl
set_option maxRecDepth 100000 in
theorem lifted (os:Os) (started:os.Started) (H:Type) (enc:TypeId×Value→H) :
  ReturnsInHanded {} Try.checked os 7 .any (Rows.weightsBackSpec.pre6 enc Try.prog Try.f7 Rows.weightsBackRow.domain false) (Rows.weightsBackSpec.post enc Try.prog Try.f7 false true false false):=by
 refine returnsInHanded_of_change_sized (C:=Try.checked) own started (by kernel_rfl) Try.func7
  (ChangeSpec.witness6 (enc:=enc) (C:=Try.checked) false ⟨#[],#[.slice none 0 0,.slice none 0 0],[]⟩ 8 (by kernel_rfl) (by kernel_rfl) (by kernel_rfl) (by kernel_rfl)) ?_
 intro W base args ds gs before hval0 hW hcnd hz _
 have hval:∀(j:Nat) t v,Try.f7.params[j]?=some t→args[j]?=some v→Value.okWide Try.prog W .any base t v:=hval0
 have hW':=hW
 obtain⟨p,q,hA0,hV,rfl,hfz,hnd⟩:=hW
 have hA:DataW.TrodAll enc Try.prog W 0 (fun _=>true) true Try.f7.params.toList args.toList ds p:=hA0
 rw[Try.params7] at hA hval
 obtain⟨v0,vs0,d0,ds0,p0,q0,hargs0,rfl,rfl,h0,r0⟩:=trodAll_cons hA
 obtain⟨v1,vs1,d1,ds1,p1,q1,hargs1,rfl,rfl,h1,r1⟩:=trodAll_cons r0
 obtain⟨rfl,rfl,rfl⟩:=trodAll_nil r1
 obtain rfl:args=#[v0,v1]:=by cases args;simp_all
 obtain⟨rfl,rfl⟩:=trodVars_none hV
 obtain⟨s0,l0,cap0,rfl,lt0,ho0,hw0,hc0,hd0⟩:=kfr (P:=Try.prog) Try.underlying25 Try.underlying5 (by kernel_rfl) (hval 0 25 v0 rfl rfl) h0
 obtain⟨s1,l1,cap1,rfl,lt1,ho1,hw1,hc1,hd1⟩:=kfr (P:=Try.prog) Try.underlying25 Try.underlying5 (by kernel_rfl) (hval 1 25 v1 rfl rfl) h1
 have hb0:l0.length*1≤140737488351232:=by
  rcases hd0 with⟨_,rfl⟩|⟨rest,rfl⟩
  ·simp
  ·have h:=sized_slice hz (j:=0) (t:=25) (e:=5) rfl rfl Try.underlying25
   rw[show Try.checked.prog.bytesOf 5=1 by kernel_rfl,show reachBytes=140737488351232 by rfl] at h
   simp only[lits,List.length_map] at h
   omega
 have hb1:l1.length*1≤140737488351232:=by
  rcases hd1 with⟨_,rfl⟩|⟨rest,rfl⟩
  ·simp
  ·have h:=sized_slice hz (j:=1) (t:=25) (e:=5) rfl rfl Try.underlying25
   rw[show Try.checked.prog.bytesOf 5=1 by kernel_rfl,show reachBytes=140737488351232 by rfl] at h
   simp only[lits,List.length_map] at h
   omega
 refine(kkx (knF l0 l1 cap0 cap1 (fun c hc=>wf_u8 (hw0 c hc)) (fun c hc=>wf_u8 (hw1 c hc)) (by omega) (by omega) hc0) (by intro B hB;simp at hB;rcases hB with rfl|rfl<;>rfl) (km5 [(s0,.ro .u8 l0),(s1,.ro .u8 l1)] (by intro e he;simp at he;rcases he with rfl|rfl;exact⟨lt0,rfl,ho0⟩;exact⟨lt1,rfl,ho1⟩))).mono fun e W' ⟨he,hb⟩=>⟨_,he,?_⟩
 exact klM hW' rfl (by kernel_rfl) Try.underlying4 (by kernel_rfl) (by kernel_rfl) rfl rfl rfl hb

theorem over:Rows.weightsBackRow.holds Try.pinned (OpenSpec.ofChange Rows.weightsBackSpec):=
 OpenClaim.holds_of_wide 7 Try.f7 rfl rfl rfl rfl rfl rfl rfl ⟨rfl,rfl,rfl,rfl,rfl⟩ rfl rfl rfl rfl rfl (by kernel_rfl) Try.func7 (by kernel_rfl)
  (of_decide_eq_true (by kernel_rfl)) (by unfold Func.isWrapper;first|(rw[if_pos (by decide +kernel)];kernel_rfl)|(rw[if_neg (by decide +kernel)];exact⟨rfl,rfl⟩))
  (fun os started H enc _=>lifted os started H enc)

theorem proved:Rows.WeightsBackSaid:=
 over
#print axioms proved
end Go.Proofs.Ytlclleihoampdaa.weightsBack
