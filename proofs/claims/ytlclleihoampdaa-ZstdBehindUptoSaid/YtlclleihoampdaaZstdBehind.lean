/-
 For all bytes and budgets within the second form's bulk, balerlaw15.ZstdBehind returns true and leaves its arguments as they were.
-/
import Derived.Test.YtlclleihoampdaaA8
import Derived.Test.YtlclleihoampdaaED
namespace Go.Proofs.Ytlclleihoampdaa.zstdBehind
open Go Go.Sx Go.ChangeShapes Go.WideShapes Go.ChangeAt Go.RowKit Go.Deep
set_option linter.unusedVariables false
theorem wf_u8 {x:Int} (h:(Lit.int .u8 x).wf=true):kF x:=by
 simp[Lit.wf,IntKind.min,IntKind.max,IntKind.signed,IntKind.bits] at h
 unfold kF
 omega
theorem strEq_self (l:List Int):(List.map (fun n=>UInt8.ofNat n.toNat) l==List.map (fun n=>UInt8.ofNat n.toNat) l)=true:=by simp
set_option maxHeartbeats 40000000 in
set_option maxRecDepth 10000 in
theorem law_con (b d:List Int) (cap dap:Nat) (bud:Int) (hb:∀c∈b,kF c) (hd:∀c∈d,kF c) (hbl:b.length≤1048576) (hdl:d.length≤1048576) (hcap:b.length≤cap) :
  Con Try.prog 4 [.slice 0 .z 1 b.length cap,.slice 1 .z 1 d.length dap,.int .i64 bud] [.ro .u8 b,.ro .u8 d] (fun v H R=>v=.bool true∧H=[.ro .u8 b,.ro .u8 d]∧R=[]):=by
 have hwakes:=kb6
 have h1:=jS b bud cap b.length hb rfl hcap (by omega)
 obtain⟨bd,hbd⟩:∃l,l=b++d:=⟨_,rfl⟩
 have hbd8:∀c∈bd,kF c:=fun c hc=>by rw[hbd,List.mem_append] at hc;exact hc.elim (hb c) (hd c)
 obtain⟨bi,hbi⟩:∃bi:Int,bi=(b.length:Int):=⟨_,rfl⟩
 have hbe:∀{out n},MemR b bud out n 0→0≤n∧n≤bi∧MemR bd bud out n 0:=fun h=>by
  have h:=h.behind (c:=d) hb
  rw[hbi,hbd]
  exact⟨by omega,h.2.1,h.2.2⟩
 obtain⟨bl,hbl'⟩:∃n,n=b.length:=⟨_,rfl⟩
 obtain⟨dl,hdl'⟩:∃n,n=d.length:=⟨_,rfl⟩
 obtain⟨tl,htl⟩:∃n,n=bl+dl:=⟨_,rfl⟩
 have h2:=fun c2 (h:tl≤c2)=>jS bd bud c2 tl hbd8 (by rw[hbd,List.length_append];omega) h (by omega)
 have hc0:∀{out n e},MemR b bud out n e→e≠0→n=0:=fun h he=>h.code he
 rw[←hbl'] at hbl hcap hbi h1 ⊢
 rw[←hdl'] at hdl ⊢
 refine kf (kw 2 (by simp) (kg (kc kj fn4 ?_)))
 intro vb vc vw vtoN vofN vaddN vsubN vmaxI vminI vcutN vgd vst vln vrep vsub vonto vsplice vstrEq vbyteV vnotB veqB hw qb qc qw qtoN qofN qaddN qsubN qmaxI qminI qcutN qgd qst qln qrep qsub qonto qsplice qstrEq qbyteV qnotB qeqB
 have hm:=kj;generalize Try.prog=P at *
 have hee:∀x:Int,vc .eql x x=true:=fun x=>by rw[qc,kt]
 have hstr:∀l,vstrEq l l=true:=fun l=>by rw[qstrEq];exact strEq_self l
 have ha0:∀n,vaddN 0 n=n:=fun n=>by simp only[qaddN,Nat.zero_add]
 have hat:vaddN bl dl=tl:=by rw[htl];simp only[qaddN]
 have hlnq:∀l,vln l=l.length:=fun l=>by simp only[qln]
 have hsb:vsub b 0 bl=b:=by simp only[qsub,List.drop_zero];rw[hbl',List.take_length]
 have hsd:vsub d 0 dl=d:=by simp only[qsub,List.drop_zero];rw[hdl',List.take_length]
 have hon1:vonto [] 0 b=b:=by simp only[qonto];simp
 have hon2:vonto b bl d=bd:=by simp only[qonto];rw[hbl',List.take_length];exact hbd.symm
 have hn0:vc .neq 0 0=false:=by rw[qc];rfl
 have hofN:vofN bl=bi:=by rw[qofN];exact hbi.symm
 have p1:bl*1≤140737488355328:=by omega
 have p2:tl*1≤140737488355328:=by omega
 have p3:bl≤b.length:=by omega
 have p4:dl≤d.length:=by omega
 clear hbd8 hbl' hdl' hbd htl
 cbv
 refine ka (ρ:=[(0,.z)]) h1 ⟨by rfl,by rfl,by rfl,by cbv;(repeat' first|(refine And.intro ?_ ?_)|exact trivial|exact⟨Nat.le_refl _⟩|exact kb _|exact fun _=>rfl|(simp only[renL3];done)|(show SB.roA _ _ _=SB.roA _ _ _;rfl)|exact funext fun _=>rfl)⟩ ?_
 rintro v H R js ⟨rfl,out,n,e,ml,mc,mc2,hM,rfl,hml,hmc,rfl⟩
 by_cases he:e=0
 ·subst he
  obtain⟨g1,g2,hM2⟩:=hbe hM
  have q1:vc .geq n 0=true:=by rw[qc,jm];exact g1
  have q2:vc .leq n bi=true:=by rw[qc,kc5];exact g2
  cbv
  rw[hn0]
  cbv
  refine⟨⟨by rw[ha0,hlnq];exact p3⟩,⟨Nat.zero_le _⟩,⟨Nat.zero_le _⟩,⟨by rw[ha0];exact p1⟩,?_⟩
  intro c5 jv5 hc5
  cbv
  rw[hsb,hon1,ha0]
  refine⟨⟨by rw[hlnq];exact p4⟩,⟨by rw[ha0,hlnq];exact p3⟩,⟨Nat.le_refl _⟩,⟨by rw[ha0,hat];exact p2⟩,?_⟩
  intro c6 jv6 hc6
  have h6:tl≤c6:=by have h:vaddN (vaddN 0 bl) dl≤c6:=hc6.out;rw[ha0,hat] at h;exact h
  have h2:=h2 c6 h6
  cbv
  rw[hsd,ha0,hat,hon2]
  refine ka (ρ:=[(3,.z)]) h2 ⟨by rfl,by rfl,by rfl,by cbv;(repeat' first|(refine And.intro ?_ ?_)|exact trivial|exact⟨Nat.le_refl _⟩|exact kb _|exact fun _=>rfl|(simp only[renL3];done)|(show SB.roA _ _ _=SB.roA _ _ _;rfl)|exact funext fun _=>rfl)⟩ ?_
  rintro v H R js2 ⟨rfl,out2,n2,e2,ml2,md,md2,hM3,rfl,hml2,hmd,rfl⟩
  obtain⟨rfl,rfl,rfl⟩:=hM3.uniq hM2
  obtain rfl:ml2=ml:=hml2.trans hml.symm
  cbv
  rw[hee]
  cbv
  rw[hee]
  cbv
  rw[q1]
  cbv
  rw[hofN,q2]
  cbv
  refine⟨⟨by rw[ha0,hlnq];omega⟩,⟨by rw[ha0,hlnq];omega⟩,?_⟩
  rw[hstr]
  cbv
  refine ka (ρ:=[]) hwakes ⟨by rfl,by rfl,by rfl,by cbv⟩ ?_
  rintro v H R js9 ⟨rfl,rfl,rfl⟩
  cbv
 ·have hne:vc .neq e 0=true:=by rw[qc,kz];exact he
  obtain rfl:n=0:=hc0 hM he
  cbv
  rw[hne]
  cbv
  rw[hee]
  cbv
  refine ka (ρ:=[]) hwakes ⟨by rfl,by rfl,by rfl,by cbv⟩ ?_
  rintro v H R js9 ⟨rfl,rfl,rfl⟩
  cbv

theorem own:ownKnob Try.prog.godebug=none:=by kernel_rfl
theorem kgM {H:Type} (k:IntKind):∀(l:List Int),Rows.uptoBulkAll (H:=H) (lits k l)=l.length
 |[]=>rfl
 |n::l=>by
  have:=kgM (H:=H) k l
  simp only[lits,List.map_cons,Rows.uptoBulkAll,Rows.uptoBulk,List.length_cons] at this ⊢
  omega
theorem kkF {H:Type} {k:IntKind} {l:List Int} {d:DataW H} (h:(d=.nil∧l=[])∨∃rest,d=.slice (lits k l) rest):l.length≤Rows.uptoBulk d:=by
 rcases h with⟨_,rfl⟩|⟨rest,rfl⟩
 ·exact Nat.zero_le _
 ·have:=kgM (H:=H) k l
  simp only[Rows.uptoBulk]
  omega
set_option maxRecDepth 100000 in
theorem lifted (os:Os) (started:os.Started) (H:Type) (enc:TypeId×Value→H) (F:Stop.Interp) :
  ReturnsInHanded {} Try.checked os 4 .any ((Rows.OpenSpec.upto Rows.zstdBehindSpec).pre6 enc Try.prog Try.f4 Rows.zstdBehindUptoRow.domain false) (((Rows.OpenSpec.upto Rows.zstdBehindSpec).at F).post enc Try.prog Try.f4 false true false false):=by
 refine returnsInHanded_of_cond (C:=Try.checked) (s:=Rows.OpenSpec.upto Rows.zstdBehindSpec) (k:=Rows.uptoSmall) rfl own started (by kernel_rfl) Try.func4
  (OpenSpec.witness (enc:=enc) (C:=Try.checked) (s:=Rows.OpenSpec.upto Rows.zstdBehindSpec) (k:=Rows.uptoSmall) rfl false ⟨#[],#[.slice none 0 0,.slice none 0 0,.int .i64 0],[]⟩ 8 (by kernel_rfl) (by kernel_rfl) (by kernel_rfl)
   (x:=([.nil,.nil,.lit (.int .i64 0)],[],[])) (by kernel_rfl) rfl (by kernel_rfl)) ?_
 intro W base args ds gs before hval0 hW _ hk _
 have hval:∀(j:Nat) t v,Try.f4.params[j]?=some t→args[j]?=some v→Value.okWide Try.prog W .any base t v:=hval0
 have hW':=hW
 obtain⟨p,q,hA0,hV,rfl,hfz,hnd⟩:=hW
 have hA:DataW.TrodAll enc Try.prog W 0 (fun _=>true) true Try.f4.params.toList args.toList ds p:=hA0
 rw[Try.params4] at hA hval
 obtain⟨v0,vs0,d0,ds0,p0,q0,hargs0,rfl,rfl,h0,r0⟩:=trodAll_cons hA
 obtain⟨v1,vs1,d1,ds1,p1,q1,hargs1,rfl,rfl,h1,r1⟩:=trodAll_cons r0
 obtain⟨v2,vs2,d2,ds2,p2,q2,hargs2,rfl,rfl,h2,r2⟩:=trodAll_cons r1
 obtain⟨rfl,rfl,rfl⟩:=trodAll_nil r2
 obtain rfl:args=#[v0,v1,v2]:=by cases args;simp_all
 obtain⟨rfl,rfl⟩:=trodVars_none hV
 obtain⟨s0,l0,cap0,rfl,lt0,ho0,hw0,hc0,hd0⟩:=kce (P:=Try.prog) Try.underlying25 Try.underlying5 (by kernel_rfl) (hval 0 25 v0 rfl rfl) h0
 obtain⟨s1,l1,cap1,rfl,lt1,ho1,hw1,hc1,hd1⟩:=kce (P:=Try.prog) Try.underlying25 Try.underlying5 (by kernel_rfl) (hval 1 25 v1 rfl rfl) h1
 obtain⟨a2,rfl,rfl,rfl,w2⟩:=open_int Try.underlying3 (hval 2 3 v2 rfl rfl) h2
 have hbulk:=of_decide_eq_true hk
 simp only[List.cons_append,List.nil_append,Rows.uptoBulkAll] at hbulk
 have hb0:=kkF hd0
 have hb1:=kkF hd1
 refine(kdF (law_con l0 l1 cap0 cap1 a2 (fun c hc=>wf_u8 (hw0 c hc)) (fun c hc=>wf_u8 (hw1 c hc)) (by omega) (by omega) hc0) (by intro B hB;simp at hB;rcases hB with rfl|rfl<;>rfl) (kg6 [(s0,.ro .u8 l0),(s1,.ro .u8 l1)] (by intro e he;simp at he;rcases he with rfl|rfl;exact⟨lt0,rfl,ho0⟩;exact⟨lt1,rfl,ho1⟩))).mono fun e W' ⟨he,hb⟩=>⟨_,he,?_⟩
 exact kfj (s:=Rows.zstdBehindSpec) hW' rfl (by kernel_rfl) Try.underlying4 (by kernel_rfl) (by kernel_rfl) rfl rfl rfl hb

theorem over:Rows.zstdBehindUptoRow.holds Try.pinned (Rows.OpenSpec.upto Rows.zstdBehindSpec):=
 OpenClaim.holds_of_cond 4 Try.f4 rfl rfl rfl rfl rfl rfl rfl ⟨rfl,rfl,rfl,rfl,rfl⟩ rfl rfl rfl rfl rfl (by kernel_rfl) Try.func4 (by kernel_rfl)
  (of_decide_eq_true (by kernel_rfl)) (by unfold Func.isWrapper;first|(rw[if_pos (by decide +kernel)];kernel_rfl)|(rw[if_neg (by decide +kernel)];exact⟨rfl,rfl⟩))
  (fun os started H enc _ F=>lifted os started H enc F)

theorem proved:Rows.ZstdBehindUptoSaid:=
 over
#print axioms proved
end Go.Proofs.Ytlclleihoampdaa.zstdBehind
