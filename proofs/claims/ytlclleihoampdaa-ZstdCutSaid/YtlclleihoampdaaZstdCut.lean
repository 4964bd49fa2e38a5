/-
 For all bytes, budgets and places, balerlaw15.ZstdCut returns true and leaves its arguments as they were. No condition.
-/
import Derived.Test.YtlclleihoampdaaA8
import Derived.Test.YtlclleihoampdaaED
namespace Go.Proofs.Ytlclleihoampdaa.zstdCut
open Go Go.Sx Go.ChangeShapes Go.WideShapes Go.ChangeAt Go.RowKit Go.Deep
set_option linter.unusedVariables false
theorem wf_u8 {x:Int} (h:(Lit.int .u8 x).wf=true):kF x:=by
 simp[Lit.wf,IntKind.min,IntKind.max,IntKind.signed,IntKind.bits] at h
 unfold kF
 omega
theorem strEq_self (l:List Int):(List.map (fun n=>UInt8.ofNat n.toNat) l==List.map (fun n=>UInt8.ofNat n.toNat) l)=true:=by simp
set_option maxRecDepth 10000 in
theorem view_take (b:List Int) (j:Nat):qp 0 (b.take j) b:=
 ⟨⟨by rw[List.length_take];omega,fun i hi=>by
  rw[List.length_take] at hi
  rw[Nat.zero_add,List.getD_eq_getElem?_getD,List.getElem?_take,if_pos (by omega),List.getD_eq_getElem?_getD]⟩⟩
theorem kn8 (x:Int) {n:Int} (hn:0<n) : -n<x.tmod n∧x.tmod n<n:=by
 rcases Int.le_total 0 x with h|h
 ·have h1:=Int.tmod_nonneg n h
  have h2:=Int.tmod_lt_of_pos x hn
  omega
 ·have h1:=Int.tmod_nonneg n (show 0 ≤ -x by omega)
  have h2:=Int.tmod_lt_of_pos (-x) hn
  rw[Int.neg_tmod] at h1 h2
  omega
theorem cutN {at' n bi:Int} {bl cap:Nat} (hbi:bi=(bl:Int)) (h1:1≤n) (h2:n≤bi) (hl:bl≤140737488355328) (hcap:bl≤cap) :
  ∃(j:Nat) (t1 t2 s1:Int),bV .rem .i64 at' n=t1∧bV .add .i64 t1 n=t2∧bV .rem .i64 t2 n=s1∧s1.toNat=j∧(0≤s1∧s1≤(cap:Int))∧(j:Int)<n∧j≤bl∧cV .lss n 1=false∧cV .gtr n bi=false∧n≠0:=by
 have r1:=kn8 at' (n:=n) (by omega)
 have e2:bV .add .i64 (at'.tmod n) n=at'.tmod n+n:=ku (by omega) (by omega)
 have e3:bV .rem .i64 (at'.tmod n+n) n=(at'.tmod n+n) % n:=kg5 (by omega)
 have r2:=Int.emod_nonneg (at'.tmod n+n) (show n≠0 by omega)
 have r3:=Int.emod_lt_of_pos (at'.tmod n+n) (show 0<n by omega)
 exact⟨_,_,_,_,rfl,e2,e3,rfl,⟨r2,by omega⟩,by omega,by omega,by rw[km];omega,by rw[gtr_false];omega,by omega⟩
set_option maxHeartbeats 40000000 in
set_option maxRecDepth 10000 in
theorem law_con (b:List Int) (cap:Nat) (bud at':Int) (hb:∀c∈b,kF c) (hbl:b.length≤140737488355328) (hcap:b.length≤cap) :
  Con Try.prog 5 [.slice 0 .z 1 b.length cap,.int .i64 bud,.int .i64 at'] [.ro .u8 b] (fun v H R=>v=.bool true∧H=[.ro .u8 b]∧R=[]):=by
 have hwakes:=kb6
 have h1:=jS b bud cap b.length hb rfl hcap hbl
 have h2:=fun j (h:j≤b.length) bj (hj:bj=b.take j)=>jS bj bud cap j (fun x hx=>hb x (List.mem_of_mem_take (by rw[←hj];exact hx))) (by rw[hj,List.length_take];omega) (by omega) (by omega)
 have hview:∀j bj,bj=b.take j→qp 0 bj b:=fun j bj h=>by rw[h];exact view_take b j
 obtain⟨bi,hbi⟩:∃bi:Int,bi=(b.length:Int):=⟨_,rfl⟩
 have hbe:∀{out n},MemR b bud out n 0→1≤n∧n≤bi:=fun h=>by rw[hbi];exact⟨(h.behind (c:=[]) hb).1,(h.behind (c:=[]) hb).2.1⟩
 have hcut:∀{out n},MemR b bud out n 0→∀j:Nat,(j:Int)<n→∃bj own,bj=b.take j∧MemR bj bud own 0 10∧∃x,out=own++x:=fun h j hj=>by
  obtain⟨own,k1,k2⟩:=h.cut hb hj (by have:=(hbe h).2;omega)
  exact⟨_,own,rfl,k1,k2⟩
 refine kf (kw 1 (by simp) (kg (kc kj fn5 ?_)))
 intro vb vc vw vtoN vofN vaddN vsubN vmaxI vminI vcutN vgd vst vln vrep vsub vonto vsplice vstrEq vbyteV vnotB veqB hw qb qc qw qtoN qofN qaddN qsubN qmaxI qminI qcutN qgd qst qln qrep qsub qonto qsplice qstrEq qbyteV qnotB qeqB
 have hm:=kj;generalize Try.prog=P at *
 generalize b.length=bl at *
 have hee:∀x:Int,vc .eql x x=true:=fun x=>by rw[qc,kt]
 have hstr:∀l,vstrEq l l=true:=fun l=>by rw[qstrEq];exact strEq_self l
 have ha0:∀n,vaddN 0 n=n:=fun n=>by simp only[qaddN,Nat.zero_add]
 have hlnq:∀l,vln l=l.length:=fun l=>by simp only[qln]
 have hsubq:∀(l:List Int) q,vsub l 0 q=l.take q:=fun l q=>by simp only[qsub,List.drop_zero]
 have hn0:vc .neq 0 0=false:=by rw[qc];rfl
 have hofN:∀n:Nat,vofN n=(n:Int):=fun n=>by rw[qofN]
 cbv
 refine ka (ρ:=[(0,.z)]) h1 ⟨by rfl,by rfl,by rfl,by cbv;(repeat' first|(refine And.intro ?_ ?_)|exact trivial|exact⟨Nat.le_refl _⟩|exact kb _|exact fun _=>rfl|(simp only[renL3];done)|(show SB.roA _ _ _=SB.roA _ _ _;rfl)|exact funext fun _=>rfl)⟩ ?_
 rintro v H R js ⟨rfl,out,n,e,ml,mc,mc2,hM,rfl,hml,hmc,rfl⟩
 by_cases he:e=0
 ·subst he
  obtain⟨g1,g2⟩:=hbe hM
  obtain⟨j,t1,t2,s1,er1,ea1,er2,hj,hin,hjn,hjb,l1,l2,hnz⟩:=cutN (at':=at') hbi g1 g2 hbl hcap
  obtain⟨bj,own,hbj,hM2,x,hx⟩:=hcut hM j hjn
  have h2:=h2 j hjb bj hbj
  have hview:=hview j bj hbj
  clear hcut hbj
  rw[←qb] at er1 ea1 er2
  rw[←qc] at l1 l2
  have hbi':vofN bl=bi:=by rw[hbi];exact hofN _
  have htn:vtoN s1=j:=by rw[qtoN];exact hj
  cbv
  rw[hn0]
  cbv
  rw[l1]
  cbv
  rw[hbi',l2]
  cbv
  rw[er1,ea1,er2]
  refine⟨⟨hnz⟩,⟨hnz⟩,⟨hin⟩,?_⟩
  rw[htn]
  refine ka (ρ:=[(0,.z)]) h2 ⟨by rfl,by rfl,by rfl,by cbv;exact⟨hview,trivial⟩⟩ ?_
  rintro v H R js2 ⟨rfl,own2,m,f,ml2,md,md2,hM3,rfl,hml2,hmd,rfl⟩
  obtain⟨rfl,rfl,rfl⟩:=hM3.uniq hM2
  have hle:ml2≤ml:=by rw[hml2,hml,hx,List.length_append];omega
  have hlq:vc .leq (vofN ml2) (vofN ml)=true:=by rw[qc,kc5,hofN,hofN];exact Int.ofNat_le.2 hle
  have hv1:vsub own2 0 ml2=own2:=by rw[hsubq,hml2,List.take_length]
  have hv2:vsub out 0 ml2=own2:=by rw[hsubq,hml2,hx,List.take_left]
  have hlo:ml2≤out.length:=by omega
  have hlo2:ml2≤own2.length:=by omega
  have hlc:(0:Int)≤vofN ml2∧vofN ml2≤(mc:Int):=⟨by rw[hofN];exact Int.natCast_nonneg _,by rw[hofN];exact Int.ofNat_le.2 (Nat.le_trans hle hmc)⟩
  have htm:vtoN (vofN ml2)=ml2:=by rw[hofN];simp only[qtoN,Int.toNat_natCast]
  cbv
  rw[hee]
  cbv
  rw[hee]
  cbv
  rw[hlq]
  cbv
  refine⟨⟨by rw[ha0,hlnq];exact hlo2⟩,⟨hlc⟩,⟨by rw[htm,ha0,hlnq];exact hlo⟩,?_⟩
  rw[htm,hv1,hv2,hstr]
  cbv
  refine ka (ρ:=[]) hwakes ⟨by rfl,by rfl,by rfl,by cbv⟩ ?_
  rintro v H R js9 ⟨rfl,rfl,rfl⟩
  cbv
  exact⟨⟨⟨by rw[ha0,hlnq];exact hlo⟩,by rw[hv2]⟩,⟨⟨by rw[ha0,hlnq];exact hlo2⟩,by rw[hv1]⟩,trivial⟩
 ·have hne:vc .neq e 0=true:=by rw[qc,kz];exact he
  cbv
  rw[hne]
  cbv
  rw[hne]
  cbv
  refine ka (ρ:=[]) hwakes ⟨by rfl,by rfl,by rfl,by cbv⟩ ?_
  rintro v H R js9 ⟨rfl,rfl,rfl⟩
  cbv
theorem own:ownKnob Try.prog.godebug=none:=by kernel_rfl
set_option maxRecDepth 100000 in
theorem lifted (os:Os) (started:os.Started) (H:Type) (enc:TypeId×Value→H) :
  ReturnsInHanded {} Try.checked os 5 .any (Rows.zstdCutSpec.pre6 enc Try.prog Try.f5 Rows.zstdCutRow.domain false) (Rows.zstdCutSpec.post enc Try.prog Try.f5 false true false false):=by
 refine returnsInHanded_of_change_sized (C:=Try.checked) own started (by kernel_rfl) Try.func5
  (ChangeSpec.witness6 (enc:=enc) (C:=Try.checked) false ⟨#[],#[.slice none 0 0,.int .i64 0,.int .i64 0],[]⟩ 8 (by kernel_rfl) (by kernel_rfl) (by kernel_rfl) (by kernel_rfl)) ?_
 intro W base args ds gs before hval0 hW hcnd hz _
 have hval:∀(j:Nat) t v,Try.f5.params[j]?=some t→args[j]?=some v→Value.okWide Try.prog W .any base t v:=hval0
 have hW':=hW
 obtain⟨p,q,hA0,hV,rfl,hfz,hnd⟩:=hW
 have hA:DataW.TrodAll enc Try.prog W 0 (fun _=>true) true Try.f5.params.toList args.toList ds p:=hA0
 rw[Try.params5] at hA hval
 obtain⟨v0,vs0,d0,ds0,p0,q0,hargs0,rfl,rfl,h0,r0⟩:=trodAll_cons hA
 obtain⟨v1,vs1,d1,ds1,p1,q1,hargs1,rfl,rfl,h1,r1⟩:=trodAll_cons r0
 obtain⟨v2,vs2,d2,ds2,p2,q2,hargs2,rfl,rfl,h2,r2⟩:=trodAll_cons r1
 obtain⟨rfl,rfl,rfl⟩:=trodAll_nil r2
 obtain rfl:args=#[v0,v1,v2]:=by cases args;simp_all
 obtain⟨rfl,rfl⟩:=trodVars_none hV
 obtain⟨s0,l0,cap0,rfl,lt0,ho0,hw0,hc0,hd0⟩:=kce (P:=Try.prog) Try.underlying25 Try.underlying5 (by kernel_rfl) (hval 0 25 v0 rfl rfl) h0
 obtain⟨a1,rfl,rfl,rfl,w1⟩:=open_int Try.underlying3 (hval 1 3 v1 rfl rfl) h1
 obtain⟨a2,rfl,rfl,rfl,w2⟩:=open_int Try.underlying3 (hval 2 3 v2 rfl rfl) h2
 have hb0:l0.length*1≤140737488351232:=by
  rcases hd0 with⟨_,rfl⟩|⟨rest,rfl⟩
  ·simp
  ·have h:=sized_slice hz (j:=0) (t:=25) (e:=5) rfl rfl Try.underlying25
   rw[show Try.checked.prog.bytesOf 5=1 by kernel_rfl,show reachBytes=140737488351232 by rfl] at h
   simp only[lits,List.length_map] at h
   omega
 refine(kdF (law_con l0 cap0 a1 a2 (fun c hc=>wf_u8 (hw0 c hc)) (by omega) hc0) (by intro B hB;simp at hB;subst hB;rfl) (kg6 [(s0,.ro .u8 l0)] (by intro e he;simp at he;subst he;exact⟨lt0,rfl,ho0⟩))).mono fun e W' ⟨he,hb⟩=>⟨_,he,?_⟩
 exact kfj hW' rfl (by kernel_rfl) Try.underlying4 (by kernel_rfl) (by kernel_rfl) rfl rfl rfl hb

theorem over:Rows.zstdCutRow.holds Try.pinned (OpenSpec.ofChange Rows.zstdCutSpec):=
 OpenClaim.holds_of_wide 5 Try.f5 rfl rfl rfl rfl rfl rfl rfl ⟨rfl,rfl,rfl,rfl,rfl⟩ rfl rfl rfl rfl rfl (by kernel_rfl) Try.func5 (by kernel_rfl)
  (of_decide_eq_true (by kernel_rfl)) (by unfold Func.isWrapper;first|(rw[if_pos (by decide +kernel)];kernel_rfl)|(rw[if_neg (by decide +kernel)];exact⟨rfl,rfl⟩))
  (fun os started H enc _=>lifted os started H enc)

theorem proved:Rows.ZstdCutSaid:=
 over
#print axioms proved
end Go.Proofs.Ytlclleihoampdaa.zstdCut
