/-
 For all bytes and budgets, balerlaw15.ZstdRoom returns true and leaves its arguments as they were. No condition.
-/
import Derived.Test.YtlclleihoampdaaA8
import Derived.Test.YtlclleihoampdaaED
namespace Go.Proofs.Ytlclleihoampdaa.zstdRoom
open Go Go.Sx Go.ChangeShapes Go.WideShapes Go.ChangeAt Go.RowKit Go.Deep
set_option linter.unusedVariables false
theorem wf_u8 {x:Int} (h:(Lit.int .u8 x).wf=true):kF x:=by
 simp[Lit.wf,IntKind.min,IntKind.max,IntKind.signed,IntKind.bits] at h
 unfold kF
 omega
theorem strEq_self (l:List Int):(List.map (fun n=>UInt8.ofNat n.toNat) l==List.map (fun n=>UInt8.ofNat n.toNat) l)=true:=by simp
theorem krN {b:List Int} {bud:Int} (h:hdP b bud=.err 40):kdq b=(0,40)∨∃w,kdq b=(w,0)∧max bud 0<w:=by
 rcases kqK h with h1|⟨k,win,most,siz,told,sm,h1,h2⟩
 ·exact .inl (by unfold kdq;rw[h1])
 ·exact .inr ⟨win,by unfold kdq;rw[h1],h2⟩
set_option maxHeartbeats 40000000 in
set_option maxRecDepth 10000 in
theorem law_con (b:List Int) (cap:Nat) (bud more:Int) (hb:∀c∈b,kF c) (hbl:b.length≤140737488355328) (hcap:b.length≤cap) :
  Con Try.prog 6 [.slice 0 .z 1 b.length cap,.int .i64 bud,.int .i64 more] [.ro .u8 b] (fun v H R=>v=.bool true∧H=[.ro .u8 b]∧R=[]):=by
 have hwakes:=kb6
 have h1:=jS b bud cap b.length hb rfl hcap hbl
 obtain⟨bm,hbm⟩:∃x,x=max bud more:=⟨_,rfl⟩
 obtain⟨b0,hb0⟩:∃x,x=max bud 0:=⟨_,rfl⟩
 have h2:=jS b bm cap b.length hb rfl hcap hbl
 have hroom:∀{out n e},MemR b bud out n e→e≠40→MemR b bm out n e:=fun h he=>by rw[hbm];exact h.room.2 he
 have hroom4:∀{out n},MemR b bud out n 40→out=[]∧(kdq b=(0,40)∨∃w,kdq b=(w,0)∧b0<w):=fun h=>by
  have h2:=(h.room (more:=0)).1 rfl
  rw[hb0]
  exact⟨h2.1,krN h2.2⟩
 have h3:=kfL b cap b.length hb rfl hcap hbl
 refine kf (kw 1 (by simp) (kg (kc kj fn6 ?_)))
 intro vb vc vw vtoN vofN vaddN vsubN vmaxI vminI vcutN vgd vst vln vrep vsub vonto vsplice vstrEq vbyteV vnotB veqB hw qb qc qw qtoN qofN qaddN qsubN qmaxI qminI qcutN qgd qst qln qrep qsub qonto qsplice qstrEq qbyteV qnotB qeqB
 have hm:=kj;generalize Try.prog=P at *
 generalize b.length=bl at *
 have hee:∀x:Int,vc .eql x x=true:=fun x=>by rw[qc,kt]
 have hstr:∀l,vstrEq l l=true:=fun l=>by rw[qstrEq];exact strEq_self l
 have ha0:∀n,vaddN 0 n=n:=fun n=>by simp only[qaddN,Nat.zero_add]
 have hlnq:∀l,vln l=l.length:=fun l=>by simp only[qln]
 have hmx:vmaxI bud more=bm:=by rw[qmaxI,hbm];show(if more>bud then more else bud)=max bud more;split<;>omega
 have hmx0:vmaxI bud 0=b0:=by rw[qmaxI,hb0];show(if 0>bud then 0 else bud)=max bud 0;split<;>omega
 cbv
 refine ka (ρ:=[(0,.z)]) h1 ⟨by rfl,by rfl,by rfl,by cbv;(repeat' first|(refine And.intro ?_ ?_)|exact trivial|exact⟨Nat.le_refl _⟩|exact kb _|exact fun _=>rfl|(simp only[renL3];done)|(show SB.roA _ _ _=SB.roA _ _ _;rfl)|exact funext fun _=>rfl)⟩ ?_
 rintro v H R js ⟨rfl,out,n,e,ml,mc,mc2,hM,rfl,hml,hmc,rfl⟩
 by_cases he:e=40
 ·subst he
  obtain⟨rfl,h40⟩:=hroom4 hM
  obtain rfl:ml=0:=hml
  have h00:vofN 0=0:=by rw[qofN];rfl
  cbv
  rw[hee]
  cbv
  rcases h40 with hw|⟨w,hw,hlt⟩
  ·rw[hw] at h3
   refine ka (ρ:=[(0,.z)]) h3 ⟨by rfl,by rfl,by rfl,by cbv;(repeat' first|(refine And.intro ?_ ?_)|exact trivial|exact⟨Nat.le_refl _⟩|exact kb _|exact fun _=>rfl|(simp only[renL3];done)|(show SB.roA _ _ _=SB.roA _ _ _;rfl)|exact funext fun _=>rfl)⟩ ?_
   rintro v H R js2 ⟨rfl,rfl,rfl⟩
   cbv
   rw[h00,hee]
   cbv
   rw[hee]
   cbv
   refine ka (ρ:=[]) hwakes ⟨by rfl,by rfl,by rfl,by cbv⟩ ?_
   rintro v H R js9 ⟨rfl,rfl,rfl⟩
   cbv
  ·rw[hw] at h3
   have hgt:vc .gtr w b0=true:=by rw[qc,gtr_true];omega
   refine ka (ρ:=[(0,.z)]) h3 ⟨by rfl,by rfl,by rfl,by cbv;(repeat' first|(refine And.intro ?_ ?_)|exact trivial|exact⟨Nat.le_refl _⟩|exact kb _|exact fun _=>rfl|(simp only[renL3];done)|(show SB.roA _ _ _=SB.roA _ _ _;rfl)|exact funext fun _=>rfl)⟩ ?_
   rintro v H R js2 ⟨rfl,rfl,rfl⟩
   have hne4:vc .eql 0 40=false:=by rw[qc];rfl
   cbv
   rw[h00,hee]
   cbv
   rw[hne4]
   cbv
   rw[hmx0,hgt]
   cbv
   refine ka (ρ:=[]) hwakes ⟨by rfl,by rfl,by rfl,by cbv⟩ ?_
   rintro v H R js9 ⟨rfl,rfl,rfl⟩
   cbv
 ·have hne:vc .eql e 40=false:=by rw[qc,kh];exact he
  have hM2:=hroom hM he
  cbv
  rw[hne]
  cbv
  rw[hmx]
  refine ka (ρ:=[(0,.z)]) h2 ⟨by rfl,by rfl,by rfl,by cbv;(repeat' first|(refine And.intro ?_ ?_)|exact trivial|exact⟨Nat.le_refl _⟩|exact kb _|exact fun _=>rfl|(simp only[renL3];done)|(show SB.roA _ _ _=SB.roA _ _ _;rfl)|exact funext fun _=>rfl)⟩ ?_
  rintro v H R js2 ⟨rfl,out2,n2,e2,ml2,mcb,mc2b,hM3,rfl,hml2,hmc2,rfl⟩
  obtain⟨rfl,rfl,rfl⟩:=hM3.uniq hM2
  obtain rfl:ml2=ml:=hml2.trans hml.symm
  cbv
  rw[hee]
  cbv
  rw[hee]
  cbv
  refine⟨⟨by rw[ha0,hlnq];omega⟩,⟨by rw[ha0,hlnq];omega⟩,?_⟩
  rw[hstr]
  cbv
  refine ka (ρ:=[]) hwakes ⟨by rfl,by rfl,by rfl,by cbv⟩ ?_
  rintro v H R js9 ⟨rfl,rfl,rfl⟩
  cbv
theorem own:ownKnob Try.prog.godebug=none:=by kernel_rfl
set_option maxRecDepth 100000 in
theorem lifted (os:Os) (started:os.Started) (H:Type) (enc:TypeId×Value→H) :
  ReturnsInHanded {} Try.checked os 6 .any (Rows.zstdRoomSpec.pre6 enc Try.prog Try.f6 Rows.zstdRoomRow.domain false) (Rows.zstdRoomSpec.post enc Try.prog Try.f6 false true false false):=by
 refine returnsInHanded_of_change_sized (C:=Try.checked) own started (by kernel_rfl) Try.func6
  (ChangeSpec.witness6 (enc:=enc) (C:=Try.checked) false ⟨#[],#[.slice none 0 0,.int .i64 0,.int .i64 0],[]⟩ 8 (by kernel_rfl) (by kernel_rfl) (by kernel_rfl) (by kernel_rfl)) ?_
 intro W base args ds gs before hval0 hW hcnd hz _
 have hval:∀(j:Nat) t v,Try.f6.params[j]?=some t→args[j]?=some v→Value.okWide Try.prog W .any base t v:=hval0
 have hW':=hW
 obtain⟨p,q,hA0,hV,rfl,hfz,hnd⟩:=hW
 have hA:DataW.TrodAll enc Try.prog W 0 (fun _=>true) true Try.f6.params.toList args.toList ds p:=hA0
 rw[Try.params6] at hA hval
 obtain⟨v0,vs0,d0,ds0,p0,q0,hargs0,rfl,rfl,h0,r0⟩:=trodAll_cons hA
 obtain⟨v1,vs1,d1,ds1,p1,q1,hargs1,rfl,rfl,h1,r1⟩:=trodAll_cons r0
 obtain⟨v2,vs2,d2,ds2,p2,q2,hargs2,rfl,rfl,h2,r2⟩:=trodAll_cons r1
 obtain⟨rfl,rfl,rfl⟩:=trodAll_nil r2
 obtain rfl:args=#[v0,v1,v2]:=by cases args;simp_all
 obtain⟨rfl,rfl⟩:=trodVars_none hV
 obtain⟨s0,l0,cap0,rfl,lt0,ho0,hw0,hc0,hd0⟩:=kce (P:=Try.prog) Try.underlying25 Try.underlying5 (by kernel_rfl) (hval 0 25 v0 rfl rfl) h0
 obtain⟨a1,rfl,rfl,rfl,w1⟩:=open_int Try.underlying3 (hval 1 3 v1 rfl rfl) h1
 obtain⟨a2,rfl,rfl,rfl,w2⟩:=open_int Try.underlying3 (hval 2 3 v2 rfl rfl) h2
 have hb0:l0.length*1≤140737488351232:=by
  rcases hd0 with⟨_,rfl⟩|⟨rest,rfl⟩
  ·simp
  ·have h:=sized_slice hz (j:=0) (t:=25) (e:=5) rfl rfl Try.underlying25
   rw[show Try.checked.prog.bytesOf 5=1 by kernel_rfl,show reachBytes=140737488351232 by rfl] at h
   simp only[lits,List.length_map] at h
   omega
 refine(kdF (law_con l0 cap0 a1 a2 (fun c hc=>wf_u8 (hw0 c hc)) (by omega) hc0) (by intro B hB;simp at hB;subst hB;rfl) (kg6 [(s0,.ro .u8 l0)] (by intro e he;simp at he;subst he;exact⟨lt0,rfl,ho0⟩))).mono fun e W' ⟨he,hb⟩=>⟨_,he,?_⟩
 exact kfj hW' rfl (by kernel_rfl) Try.underlying4 (by kernel_rfl) (by kernel_rfl) rfl rfl rfl hb

theorem over:Rows.zstdRoomRow.holds Try.pinned (OpenSpec.ofChange Rows.zstdRoomSpec):=
 OpenClaim.holds_of_wide 6 Try.f6 rfl rfl rfl rfl rfl rfl rfl ⟨rfl,rfl,rfl,rfl,rfl⟩ rfl rfl rfl rfl rfl (by kernel_rfl) Try.func6 (by kernel_rfl)
  (of_decide_eq_true (by kernel_rfl)) (by unfold Func.isWrapper;first|(rw[if_pos (by decide +kernel)];kernel_rfl)|(rw[if_neg (by decide +kernel)];exact⟨rfl,rfl⟩))
  (fun os started H enc _=>lifted os started H enc)

theorem proved:Rows.ZstdRoomSaid:=
 over
#print axioms proved
end Go.Proofs.Ytlclleihoampdaa.zstdRoom
