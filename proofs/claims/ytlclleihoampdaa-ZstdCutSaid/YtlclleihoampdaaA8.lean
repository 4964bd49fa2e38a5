import Derived.Test.YtlclleihoampdaaA7
import Derived.Test.YtlclleihoampdaaA6
import Derived.Test.YtlclleihoampdaaED
import Derived.Test.YtlclleihoampdaaA1
set_option linter.unusedVariables false
set_option linter.unusedSimpArgs false
namespace Go.Proofs.Ytlclleihoampdaa
open Go Go.Sx Go.Proofs
set_option maxRecDepth 10000
set_option maxHeartbeats 40000000
theorem kkB {x y r:Int} (h:bV .and .u64 x y=r) (hr:r<9223372036854775808):bV .and .i64 x y=r:=by
 have h1:IntKind.u64.wrap ((BitVec.ofInt 64 x &&& BitVec.ofInt 64 y).toNat:Int)=r:=h;have h2:=(BitVec.ofInt 64 x &&& BitVec.ofInt 64 y).isLt;rw[wrap_u64 (by omega) (by omega)] at h1;show IntKind.i64.wrap ((BitVec.ofInt 64 x &&& BitVec.ofInt 64 y).toNat:Int)=r
 rw[h1];exact wrap_i64 (by omega) (by omega)
theorem krM {h:Int} (h0:0≤h) (h1:h<16777216):bV .and .i64 (bV .shr .i64 h 1) 3=h / 2 % 4∧bV .shr .i64 h 3=h / 8∧bV .and .i64 h 1=h % 2:=by
 have e1:bV .shr .i64 h 1=h / 2:=by rw[jE (by decide)];rfl
 refine⟨?_,by rw[jE (by decide)];rfl,?_⟩
 ·rw[e1];have:=jf (k:=.u64) rfl (x:=h / 2) 2 (by decide) (by omega) (by show _<(2:Int)^64;omega);exact kkB this (by omega)
 ·have:=and_one (k:=.u64) rfl (x:=h) h0 (by show _<(2:Int)^64;omega);exact kkB this (by omega)
theorem kme (PT:SV→List SB→List Nat→Prop) (w out bs:List Int) (wl wc wc2 n0 n1 n2 k0 k1 k2 j0 j1 j2 ol oc oc2:Nat) (x0 y0 z0 x1 y1 z1 x2 y2 z2:Nat→Int) (a b c win most siz skip gone:Int) (told sm:Bool) (L cap o qn cp k:Nat) (u:Int) (hb8:∀x∈bs,kF x) (hL:L=bs.length) (hLc:L≤cap) (hLm:L≤140737488355328) (hSA:SA L cap o k) (hqn:qn=L-k) (hcp:cp=cap-k) (hu:u=k) (hF:kcp ⟨w,⟨n0,x0,y0,z0⟩,⟨n1,x1,y1,z1⟩,⟨n2,x2,y2,z2⟩,a,b,c,out⟩) (hwl:wl=w.length) (hol:ol=out.length) (hoc:ol≤oc) (hoc2:oc≤oc2) (hout:ol≤16777216) (hmost:0≤most∧most≤131072)
  (hE:∀e,ka6 win most siz told bs k ⟨w,⟨n0,x0,y0,z0⟩,⟨n1,x1,y1,z1⟩,⟨n2,x2,y2,z2⟩,a,b,c,out⟩=.bad e→∀(u0 u1 u2 u3:Value) (W OUT:List Int) (WC2 N0 N1 N2 J0 J1 J2 OL OC OC2 o' q' c':Nat) (X0 Y0 Z0 X1 Y1 Z1 X2 Y2 Z2:Nat→Int) (A B C U:Int),PT (.agg [.bool false,.int .i64 e]) [.one 107 [.val u0,.val u1,.val u2,.val u3,.int .i64 A,.int .i64 B,.int .i64 C,.int .u64 win,.int .i64 most,.int .u64 siz,.bool told,.bool sm,.int .u64 skip,.slice 5 .z 1 OL OC,.int .i64 gone],.buf 5 .u8 W WC2,.bufA 79 3 N0 (fun m=>[.int .u8 (X0 m),.int .u8 (Y0 m),.int .u16 (Z0 m)]) J0,.bufA 79 3 N1 (fun m=>[.int .u8 (X1 m),.int .u8 (Y1 m),.int .u16 (Z1 m)]) J1,.bufA 79 3 N2 (fun m=>[.int .u8 (X2 m),.int .u8 (Y2 m),.int .u16 (Z2 m)]) J2,.buf 5 .u8 OUT OC2,.one 146 [.slice 7 (.n o') 1 q' c',.int .i64 U,.val .nilFunc],.ro .u8 bs] [1,2,3,4,5])
  (hG:∀(W OUT:List Int) (WL WC WC2 N0 N1 N2 K0 K1 K2 J0 J1 J2 OL OC OC2 o' q' c' k':Nat) (X0 Y0 Z0 X1 Y1 Z1 X2 Y2 Z2:Nat→Int) (A B C U:Int) (last:Bool),ka6 win most siz told bs k ⟨w,⟨n0,x0,y0,z0⟩,⟨n1,x1,y1,z1⟩,⟨n2,x2,y2,z2⟩,a,b,c,out⟩=.ok last k' ⟨W,⟨N0,X0,Y0,Z0⟩,⟨N1,X1,Y1,Z1⟩,⟨N2,X2,Y2,Z2⟩,A,B,C,OUT⟩→SA L cap o' k'→q'=L-k'→c'=cap-k'→U=k'→WL=W.length→OL=OUT.length→OL≤OC→OC≤OC2→PT (.agg [.bool last,.int .i64 0]) [.one 107 [.slice 1 .z 1 WL WC,.slice 2 .z 3 N0 K0,.slice 3 .z 3 N1 K1,.slice 4 .z 3 N2 K2,.int .i64 A,.int .i64 B,.int .i64 C,.int .u64 win,.int .i64 most,.int .u64 siz,.bool told,.bool sm,.int .u64 skip,.slice 5 .z 1 OL OC,.int .i64 gone],.buf 5 .u8 W WC2,.bufA 79 3 N0 (fun m=>[.int .u8 (X0 m),.int .u8 (Y0 m),.int .u16 (Z0 m)]) J0,.bufA 79 3 N1 (fun m=>[.int .u8 (X1 m),.int .u8 (Y1 m),.int .u16 (Z1 m)]) J1,.bufA 79 3 N2 (fun m=>[.int .u8 (X2 m),.int .u8 (Y2 m),.int .u16 (Z2 m)]) J2,.buf 5 .u8 OUT OC2,.one 146 [.slice 7 (.n o') 1 q' c',.int .i64 U,.val .nilFunc],.ro .u8 bs] [1,2,3,4,5]) :
  Con Try.prog 103 [.ptr 0 .z 15 0,.ptr 6 .z 3 0] [.one 107 [.slice 1 .z 1 wl wc,.slice 2 .z 3 n0 k0,.slice 3 .z 3 n1 k1,.slice 4 .z 3 n2 k2,.int .i64 a,.int .i64 b,.int .i64 c,.int .u64 win,.int .i64 most,.int .u64 siz,.bool told,.bool sm,.int .u64 skip,.slice 5 .z 1 ol oc,.int .i64 gone],.buf 5 .u8 w wc2,.bufA 79 3 n0 (fun m=>[.int .u8 (x0 m),.int .u8 (y0 m),.int .u16 (z0 m)]) j0,.bufA 79 3 n1 (fun m=>[.int .u8 (x1 m),.int .u8 (y1 m),.int .u16 (z1 m)]) j1,.bufA 79 3 n2 (fun m=>[.int .u8 (x2 m),.int .u8 (y2 m),.int .u16 (z2 m)]) j2,.buf 5 .u8 out oc2,.one 146 [.slice 7 (.n o) 1 qn cp,.int .i64 u,.val .nilFunc],.ro .u8 bs] PT:=by
 obtain⟨BP,hBP⟩:∃x,x=ka6 win most siz told bs k ⟨w,⟨n0,x0,y0,z0⟩,⟨n1,x1,y1,z1⟩,⟨n2,x2,y2,z2⟩,a,b,c,out⟩:=⟨_,rfl⟩;rw[←hBP] at hE hG;have hnum:=fun k n c (h:k+n≤bs.length) (h8:n≤8)=>kbu (sg bs k n) c (qr hb8 k n) (by rw[kP h];exact h8)
 by_cases h3:L<k+3
 ·have hP:BP=.bad 10:=by rw[hBP];unfold ka6;rw[if_pos (by rw[←hL];exact h3)]
  have hb1:=kax bs o qn cp u 3 (by omega);refine kf (j3 0 [0,1,2,3] (kw 8 (by simp) (ju [1,2,3,4,5] (kc kj kc9 ?_))))
  intro vb vc vw vtoN vofN vaddN vsubN vmaxI vminI vcutN vgd vst vln vrep vsub vonto vsplice vstrEq vbyteV vnotB veqB hw qb qc qw qtoN qofN qaddN qsubN qmaxI qminI qcutN qgd qst qln qrep qsub qonto qsplice qstrEq qbyteV qnotB qeqB;have hm:=kj;generalize Try.prog=P at *;have hnt:vnotB true=false:=by rw[qnotB];rfl
  have hnf:vnotB false=true:=by rw[qnotB];rfl
  cbv;(repeat refine And.intro (fun _=>rfl) ?_);refine ka (ρ:=[(6,.z),(7,.z)]) hb1 ⟨by rfl,by rfl,by rfl,by cbv;(repeat' first|(refine And.intro ?_ ?_)|exact trivial|exact⟨Nat.le_refl _⟩|exact kb _|exact fun _=>rfl|(simp only[renL3];done)|(show SB.roA _ _ _=SB.roA _ _ _;rfl)|exact funext fun _=>rfl)⟩ ?_
  rintro v H R js ⟨rfl,rfl,rfl⟩;cbv;(repeat refine And.intro (fun _=>rfl) ?_);rw[hnf];cbv;(repeat refine And.intro (fun _=>rfl) ?_);exact .inr (fun js=>hE 10 hP _ _ _ _ _ _ _ _ _ _ _ _ _ _ _ _ _ _ _ _ _ _ _ _ _ _ _ _ _ _ _ _)
 obtain⟨o1,ho1⟩:∃x,x=if cp=3 then o else o+3:=⟨_,rfl⟩
 obtain⟨q1,hq1⟩:∃x,x=qn-3:=⟨_,rfl⟩;obtain⟨c1,hc1⟩:∃x,x=cp-3:=⟨_,rfl⟩;obtain⟨u1,hu1⟩:∃x,x=u+3:=⟨_,rfl⟩;have hb1:=kbt bs o qn cp 3 o1 q1 c1 u 3 u1 rfl (by omega) (by have:=hSA.Lc;omega) (by omega) ho1 hq1 hc1 hu1;have s1:=hSA.take (n:=3) (o2:=o1) (by omega) (by rw[←hcp];exact ho1);have hn1:=hnum k 3 3 (by omega) (by omega);rw[kP (by omega)] at hn1;have hHr:=kY (qr hb8 k 3) 3;obtain⟨h,hh⟩:∃x,x=kV (sg bs k 3) 3:=⟨_,rfl⟩;rw[←hh] at hn1 hHr;have hv1:=hSA.view hL (n:=3) (by omega);obtain⟨S3,hS3⟩:∃l,l=sg bs k 3:=⟨_,rfl⟩;rw[←hS3] at hn1 hv1;have hH:0≤h∧h<16777216:=hHr;have hB2:BP=khn win most siz told bs (k+3) ⟨w,⟨n0,x0,y0,z0⟩,⟨n1,x1,y1,z1⟩,⟨n2,x2,y2,z2⟩,a,b,c,out⟩ h:=by rw[hBP,hh];unfold ka6;rw[if_neg (by omega)]
 obtain⟨kk1,kk2,kk3⟩:=krM hH.1 hH.2;obtain⟨kd,hkd⟩:∃x,x=h / 2 % 4:=⟨_,rfl⟩;obtain⟨sz,hsz⟩:∃x,x=h / 8:=⟨_,rfl⟩;rw[←hkd] at kk1;rw[←hsz] at kk2;have kk0:IntKind.i64.wrap h=h:=wrap_i64 (by omega) (by omega);clear hBP hh hS3 hnum;by_cases hk3:kd=3
 ·have hP:BP=.bad 11:=by rw[hB2];unfold khn;rw[if_pos (.inl (by rw[←hkd];exact hk3))]
  refine kf (j3 0 [0,1,2,3] (kw 8 (by simp) (ju [1,2,3,4,5] (kc kj kc9 ?_))))
  intro vb vc vw vtoN vofN vaddN vsubN vmaxI vminI vcutN vgd vst vln vrep vsub vonto vsplice vstrEq vbyteV vnotB veqB hw qb qc qw qtoN qofN qaddN qsubN qmaxI qminI qcutN qgd qst qln qrep qsub qonto qsplice qstrEq qbyteV qnotB qeqB;have hm:=kj;generalize Try.prog=P at *;have hnt:vnotB true=false:=by rw[qnotB];rfl
  have hnf:vnotB false=true:=by rw[qnotB];rfl
  cbv;(repeat refine And.intro (fun _=>rfl) ?_);refine ka (ρ:=[(6,.z),(7,.z)]) hb1 ⟨by rfl,by rfl,by rfl,by cbv;(repeat' first|(refine And.intro ?_ ?_)|exact trivial|exact⟨Nat.le_refl _⟩|exact kb _|exact fun _=>rfl|(simp only[renL3];done)|(show SB.roA _ _ _=SB.roA _ _ _;rfl)|exact funext fun _=>rfl)⟩ ?_
  rintro v H R js ⟨rfl,rfl,rfl⟩;cbv;(repeat refine And.intro (fun _=>rfl) ?_);rw[hnt];cbv;refine ka (ρ:=[(7,.n o)]) hn1 ⟨by rfl,by rfl,by rfl,by cbv;(repeat' first|(refine And.intro ?_ ?_)|exact trivial|exact hv1|exact fun _=>rfl|rfl)⟩ ?_
  rintro v H R js2 ⟨rfl,rfl,rfl⟩;have kk0:vw .i64 h=h:=by rw[qw];exact kk0
  have kk1:vb .and .i64 (vb .shr .i64 h 1) 3=kd:=by rw[qb];exact kk1
  have kk2:vb .shr .i64 h 3=sz:=by rw[qb];exact kk2
  cbv;(repeat refine And.intro (fun _=>rfl) ?_);rw[kk0,kk1,kk2];have g3:vc .eql kd 3=true:=by rw[qc,kt];exact hk3
  rw[g3];cbv;(repeat refine And.intro (fun _=>rfl) ?_);exact .inr (fun js=>hE 11 hP _ _ _ _ _ _ _ _ _ _ _ _ _ _ _ _ _ _ _ _ _ _ _ _ _ _ _ _ _ _ _ _)
 by_cases hms:most<sz
 ·have hP:BP=.bad 11:=by rw[hB2];unfold khn;rw[if_pos (.inr (by rw[←hsz];exact hms))]
  refine kf (j3 0 [0,1,2,3] (kw 8 (by simp) (ju [1,2,3,4,5] (kc kj kc9 ?_))))
  intro vb vc vw vtoN vofN vaddN vsubN vmaxI vminI vcutN vgd vst vln vrep vsub vonto vsplice vstrEq vbyteV vnotB veqB hw qb qc qw qtoN qofN qaddN qsubN qmaxI qminI qcutN qgd qst qln qrep qsub qonto qsplice qstrEq qbyteV qnotB qeqB;have hm:=kj;generalize Try.prog=P at *;have hnt:vnotB true=false:=by rw[qnotB];rfl
  have hnf:vnotB false=true:=by rw[qnotB];rfl
  cbv;(repeat refine And.intro (fun _=>rfl) ?_);refine ka (ρ:=[(6,.z),(7,.z)]) hb1 ⟨by rfl,by rfl,by rfl,by cbv;(repeat' first|(refine And.intro ?_ ?_)|exact trivial|exact⟨Nat.le_refl _⟩|exact kb _|exact fun _=>rfl|(simp only[renL3];done)|(show SB.roA _ _ _=SB.roA _ _ _;rfl)|exact funext fun _=>rfl)⟩ ?_
  rintro v H R js ⟨rfl,rfl,rfl⟩;cbv;(repeat refine And.intro (fun _=>rfl) ?_);rw[hnt];cbv;refine ka (ρ:=[(7,.n o)]) hn1 ⟨by rfl,by rfl,by rfl,by cbv;(repeat' first|(refine And.intro ?_ ?_)|exact trivial|exact hv1|exact fun _=>rfl|rfl)⟩ ?_
  rintro v H R js2 ⟨rfl,rfl,rfl⟩;have kk0:vw .i64 h=h:=by rw[qw];exact kk0
  have kk1:vb .and .i64 (vb .shr .i64 h 1) 3=kd:=by rw[qb];exact kk1
  have kk2:vb .shr .i64 h 3=sz:=by rw[qb];exact kk2
  cbv;(repeat refine And.intro (fun _=>rfl) ?_);rw[kk0,kk1,kk2];have g3:vc .eql kd 3=false:=by rw[qc,kh];exact hk3
  have g4:vc .gtr sz most=true:=by rw[qc,gtr_true];exact hms
  rw[g3];cbv;rw[g4];cbv;(repeat refine And.intro (fun _=>rfl) ?_);exact .inr (fun js=>hE 11 hP _ _ _ _ _ _ _ _ _ _ _ _ _ _ _ _ _ _ _ _ _ _ _ _ _ _ _ _ _ _ _ _)
 have hB3:BP=if bs.length<k+3+nB h then .bad 10 else kd0 siz told (decide (h % 2=1)) (k+3+nB h) (kfT win most kd sz (sg bs (k+3) (nB h)) ⟨w,⟨n0,x0,y0,z0⟩,⟨n1,x1,y1,z1⟩,⟨n2,x2,y2,z2⟩,a,b,c,out⟩):=by
  rw[hB2];unfold khn;rw[if_neg (by rw[←hkd,←hsz];omega),←hkd,←hsz]
 clear hB2;obtain⟨h2,hh2⟩:∃x,x=h % 2:=⟨_,rfl⟩;rw[←hh2] at kk3;obtain⟨oli,holi⟩:∃x:Int,x=ol:=⟨_,rfl⟩;have hlim1:∀(k':Nat) (F:FS) (last:Bool),16777216<F.out.length→kd0 siz told last k' (some F)=.bad 3:=fun k' F last h=>if_pos h
 have hlim2:∀(k':Nat) (F:FS) (last:Bool),¬16777216<F.out.length→told=true∧siz<F.out.length→kd0 siz told last k' (some F)=.bad 11:=fun k' F last h h'=>by simp only[kd0];rw[if_neg h,if_pos h']
 have hlim3:∀(k':Nat) (F:FS) (last:Bool),¬16777216<F.out.length→¬(told=true∧siz<F.out.length)→kd0 siz told last k' (some F)=.ok last k' F:=fun k' F last h h'=>by simp only[kd0];rw[if_neg h,if_neg h']
 have hhold:h2=0∨h2=1:=by omega
 by_cases hk0:kd=0
 ·have hnB:nB h=sz.toNat:=by unfold nB;rw[←hkd,if_neg (by omega),←hsz]
  rw[hnB] at hB3;obtain⟨n,hn⟩:∃x,x=sz.toNat:=⟨_,rfl⟩;rw[←hn] at hB3;by_cases hn4:L<k+3+n
  ·have hP:BP=.bad 10:=by rw[hB3,if_pos (by omega)]
   have hb2:=kax bs o1 q1 c1 u1 sz (by omega);refine kf (j3 0 [0,1,2,3] (kw 8 (by simp) (ju [1,2,3,4,5] (kc kj kc9 ?_))))
   intro vb vc vw vtoN vofN vaddN vsubN vmaxI vminI vcutN vgd vst vln vrep vsub vonto vsplice vstrEq vbyteV vnotB veqB hw qb qc qw qtoN qofN qaddN qsubN qmaxI qminI qcutN qgd qst qln qrep qsub qonto qsplice qstrEq qbyteV qnotB qeqB;have hm:=kj;generalize Try.prog=P at *;have hnt:vnotB true=false:=by rw[qnotB];rfl
   have hnf:vnotB false=true:=by rw[qnotB];rfl
   cbv;(repeat refine And.intro (fun _=>rfl) ?_);refine ka (ρ:=[(6,.z),(7,.z)]) hb1 ⟨by rfl,by rfl,by rfl,by cbv;(repeat' first|(refine And.intro ?_ ?_)|exact trivial|exact⟨Nat.le_refl _⟩|exact kb _|exact fun _=>rfl|(simp only[renL3];done)|(show SB.roA _ _ _=SB.roA _ _ _;rfl)|exact funext fun _=>rfl)⟩ ?_
   rintro v H R js ⟨rfl,rfl,rfl⟩;cbv;(repeat refine And.intro (fun _=>rfl) ?_);rw[hnt];cbv;refine ka (ρ:=[(7,.n o)]) hn1 ⟨by rfl,by rfl,by rfl,by cbv;(repeat' first|(refine And.intro ?_ ?_)|exact trivial|exact hv1|exact fun _=>rfl|rfl)⟩ ?_
   rintro v H R js2 ⟨rfl,rfl,rfl⟩;have kk0:vw .i64 h=h:=by rw[qw];exact kk0
   have kk1:vb .and .i64 (vb .shr .i64 h 1) 3=kd:=by rw[qb];exact kk1
   have kk2:vb .shr .i64 h 3=sz:=by rw[qb];exact kk2
   cbv;(repeat refine And.intro (fun _=>rfl) ?_);rw[kk0,kk1,kk2];have g3:vc .eql kd 3=false:=by rw[qc,kh];exact hk3
   have g4:vc .gtr sz most=false:=by rw[qc,gtr_false];exact hms
   rw[g3];cbv;rw[g4];cbv;have g1:vc .eql kd 1=false:=by rw[qc,kh];omega
   rw[g1];cbv;refine ka (ρ:=[(6,.z),(7,.z)]) hb2 ⟨by rfl,by rfl,by rfl,by cbv;(repeat' first|(refine And.intro ?_ ?_)|exact trivial|exact⟨Nat.le_refl _⟩|exact kb _|exact fun _=>rfl|(simp only[renL3];done)|(show SB.roA _ _ _=SB.roA _ _ _;rfl)|exact funext fun _=>rfl)⟩ ?_
   rintro v H R js3 ⟨rfl,rfl,rfl⟩;cbv;(repeat refine And.intro (fun _=>rfl) ?_);rw[hnf];cbv;(repeat refine And.intro (fun _=>rfl) ?_);exact .inr (fun js=>hE 10 hP _ _ _ _ _ _ _ _ _ _ _ _ _ _ _ _ _ _ _ _ _ _ _ _ _ _ _ _ _ _ _ _)
  obtain⟨o2,ho2⟩:∃x,x=if c1=n then o1 else o1+n:=⟨_,rfl⟩
  obtain⟨q2,hq2⟩:∃x,x=q1-n:=⟨_,rfl⟩;obtain⟨c2,hc2⟩:∃x,x=c1-n:=⟨_,rfl⟩;obtain⟨u2,hu2⟩:∃x,x=u1+sz:=⟨_,rfl⟩;have hb2:=kbt bs o1 q1 c1 n o2 q2 c2 u1 sz u2 (by omega) (by omega) (by have:=hSA.Lc;omega) (by omega) ho2 hq2 hc2 hu2;have s2:=s1.take (n:=n) (o2:=o2) (by omega) (by rw[show cap-(k+3)=c1 by omega];exact ho2);have hv2:=s1.view hL (n:=n) (by omega);have hsub:=s1.sub hL (n:=n) (by omega);have hole:o1+n≤L:=by have:=s1.ok;omega
  have hSl:(sg bs (k+3) n).length=n:=kP (by omega);have hS8:=qr hb8 (k+3) n;obtain⟨S,hS⟩:∃l,l=sg bs (k+3) n:=⟨_,rfl⟩;rw[←hS] at hv2 hSl hS8 hsub;rw[if_neg (by omega),←hS] at hB3;have hn13:n≤131072:=by omega
  have hq2':q2=L-(k+3+n):=by omega
  have hc2':c2=cap-(k+3+n):=by omega
  have hu2':u2=((k+3+n:Nat):Int):=by omega
  have hlastF:h2=0→decide (h % 2=1)=false:=fun h=>by simp;omega
  have hlastT:h2=1→decide (h % 2=1)=true:=fun h=>by simp;omega
  have f0:kfT win most kd sz S ⟨w,⟨n0,x0,y0,z0⟩,⟨n1,x1,y1,z1⟩,⟨n2,x2,y2,z2⟩,a,b,c,out⟩=some (kpx ⟨w,⟨n0,x0,y0,z0⟩,⟨n1,x1,y1,z1⟩,⟨n2,x2,y2,z2⟩,a,b,c,out⟩ S):=by unfold kfT;rw[if_pos hk0]
  rw[f0] at hB3;obtain⟨xn,hxn⟩:∃x,x=n:=⟨_,rfl⟩;obtain⟨XS,hXS⟩:∃l,l=S:=⟨_,rfl⟩;have hXl:XS.length=xn:=by rw[hXS,hxn];exact hSl
  rw[←hXS] at hB3;obtain⟨OUT,hOUT⟩:∃l,l=out++XS:=⟨_,rfl⟩;have hB3:BP=kd0 siz told (decide (h % 2=1)) (k+3+n) (some ⟨w,⟨n0,x0,y0,z0⟩,⟨n1,x1,y1,z1⟩,⟨n2,x2,y2,z2⟩,a,b,c,OUT⟩):=by rw[hB3,hOUT];rfl
  obtain⟨OL,hOL⟩:∃x,x=ol+xn:=⟨_,rfl⟩;have hOL2:OL=OUT.length:=by rw[hOUT,List.length_append,hXl,hOL,hol]
  have hxn3:xn≤131072:=by omega
  obtain⟨ei,hei⟩:∃x:Int,x=OL:=⟨_,rfl⟩;refine kf (j3 0 [0,1,2,3] (kw 8 (by simp) (ju [1,2,3,4,5] (kc kj kc9 ?_))))
  intro vb vc vw vtoN vofN vaddN vsubN vmaxI vminI vcutN vgd vst vln vrep vsub vonto vsplice vstrEq vbyteV vnotB veqB hw qb qc qw qtoN qofN qaddN qsubN qmaxI qminI qcutN qgd qst qln qrep qsub qonto qsplice qstrEq qbyteV qnotB qeqB;have hm:=kj;generalize Try.prog=P at *;have hnt:vnotB true=false:=by rw[qnotB];rfl
  have hnf:vnotB false=true:=by rw[qnotB];rfl
  cbv;(repeat refine And.intro (fun _=>rfl) ?_);refine ka (ρ:=[(6,.z),(7,.z)]) hb1 ⟨by rfl,by rfl,by rfl,by cbv;(repeat' first|(refine And.intro ?_ ?_)|exact trivial|exact⟨Nat.le_refl _⟩|exact kb _|exact fun _=>rfl|(simp only[renL3];done)|(show SB.roA _ _ _=SB.roA _ _ _;rfl)|exact funext fun _=>rfl)⟩ ?_
  rintro v H R js ⟨rfl,rfl,rfl⟩;cbv;(repeat refine And.intro (fun _=>rfl) ?_);rw[hnt];cbv;refine ka (ρ:=[(7,.n o)]) hn1 ⟨by rfl,by rfl,by rfl,by cbv;(repeat' first|(refine And.intro ?_ ?_)|exact trivial|exact hv1|exact fun _=>rfl|rfl)⟩ ?_
  rintro v H R js2 ⟨rfl,rfl,rfl⟩;have kk0:vw .i64 h=h:=by rw[qw];exact kk0
  have kk1:vb .and .i64 (vb .shr .i64 h 1) 3=kd:=by rw[qb];exact kk1
  have kk2:vb .shr .i64 h 3=sz:=by rw[qb];exact kk2
  cbv;(repeat refine And.intro (fun _=>rfl) ?_);rw[kk0,kk1,kk2];have g3:vc .eql kd 3=false:=by rw[qc,kh];exact hk3
  have g4:vc .gtr sz most=false:=by rw[qc,gtr_false];exact hms
  rw[g3];cbv;rw[g4];cbv;have g1:vc .eql kd 1=false:=by rw[qc,kh];omega
  rw[g1];cbv;refine ka (ρ:=[(6,.z),(7,.z)]) hb2 ⟨by rfl,by rfl,by rfl,by cbv;(repeat' first|(refine And.intro ?_ ?_)|exact trivial|exact⟨Nat.le_refl _⟩|exact kb _|exact fun _=>rfl|(simp only[renL3];done)|(show SB.roA _ _ _=SB.roA _ _ _;rfl)|exact funext fun _=>rfl)⟩ ?_
  rintro v H R js3 ⟨rfl,rfl,rfl⟩;cbv;(repeat refine And.intro (fun _=>rfl) ?_);rw[hnt];cbv;have ho0:vofN ol=oli:=by rw[qofN];exact holi.symm
  have tol:vtoN oli=ol:=by rw[holi];simp only[qtoN,Int.toNat_natCast]
  have kk3':vb .and .i64 h 1=h2:=by rw[qb];exact kk3
  rw[ho0];have g0:vc .eql kd 0=true:=by rw[qc,kt];omega
  rw[g0];cbv;have e1:vaddN ol xn=OL:=by rw[qaddN];exact hOL.symm
  have e2:vonto out ol XS=OUT:=by rw[qonto,hol,hOUT];exact congrArg (·++XS) List.take_length
  have a2:ol≤vln out:=by rw[qln];exact Nat.le_of_eq hol
  have a3:OL*1≤140737488355328:=by omega
  have he1:vofN OL=ei:=by rw[qofN];exact hei.symm
  have a0:vsub bs o1 n=XS:=by rw[qsub,hXS];exact hsub
  have a1:vaddN o1 n≤vln bs:=by simp only[qaddN,qln];rw[←hL];exact hole
  have hxn':xn=n:=hxn;subst hxn';rw[a0,e1];refine⟨⟨a1⟩,⟨a2⟩,⟨hoc2⟩,⟨a3⟩,?_⟩
  (repeat refine And.intro (fun _=>rfl) ?_);intro c5 jv hc5;have hc6:OL≤c5:=by have h9:vaddN ol xn≤c5:=hc5.out;rwa [e1] at h9
  have holi:oli=(ol:Int):=holi;have hei:ei=(OL:Int):=hei;have hic:0≤oli∧oli≤(c5:Int):=by omega
  cbv;rw[e2,e1];have hei:ei=(OL:Int):=hei;rw[he1];have hei:ei=(OL:Int):=hei;by_cases hbig:16777216<OUT.length
  ·have hP:BP=.bad 3:=by rw[hB3];exact hlim1 _ _ _ hbig
   have g5:vc .gtr ei 16777216=true:=by rw[qc,gtr_true];omega
   rw[g5];cbv;rw[tol];refine⟨⟨hic⟩,?_⟩
   rw[kk3'];rcases hhold with hz|hz
   ·have hls:vc .eql h2 1=false:=by rw[qc,kh];omega
    rw[hls];cbv;(repeat refine And.intro (fun _=>rfl) ?_);exact .inr (fun js=>hE 3 hP _ _ _ _ _ _ _ _ _ _ _ _ _ _ _ _ _ _ _ _ _ _ _ _ _ _ _ _ _ _ _ _)
   ·have hls:vc .eql h2 1=true:=by rw[qc,kt];omega
    rw[hls];cbv;(repeat refine And.intro (fun _=>rfl) ?_);exact .inr (fun js=>hE 3 hP _ _ _ _ _ _ _ _ _ _ _ _ _ _ _ _ _ _ _ _ _ _ _ _ _ _ _ _ _ _ _ _)
  have g5:vc .gtr ei 16777216=false:=by rw[qc,gtr_false];omega
  rw[g5];cbv;cases told
  ·have htd:¬(false=true∧siz<OUT.length):=fun h=>by cases h.1
   cbv;rw[kk3'];rcases hhold with hz|hz
   ·have hls:vc .eql h2 1=false:=by rw[qc,kh];omega
    rw[hls];cbv;(repeat refine And.intro (fun _=>rfl) ?_);exact .inl (hG _ _ _ _ _ _ _ _ _ _ _ _ _ _ _ _ _ _ _ _ _ _ _ _ _ _ _ _ _ _ _ _ _ _ _ (by rw[hB3,hlim3 _ _ _ hbig htd,hlastF hz]) s2 hq2' hc2' hu2' hwl hOL2 hc6 (Nat.le_refl _))
   ·have hls:vc .eql h2 1=true:=by rw[qc,kt];omega
    rw[hls];cbv;(repeat refine And.intro (fun _=>rfl) ?_);exact .inl (hG _ _ _ _ _ _ _ _ _ _ _ _ _ _ _ _ _ _ _ _ _ _ _ _ _ _ _ _ _ _ _ _ _ _ _ (by rw[hB3,hlim3 _ _ _ hbig htd,hlastT hz]) s2 hq2' hc2' hu2' hwl hOL2 hc6 (Nat.le_refl _))
  ·have hei:ei=(OL:Int):=hei;have ew:vw .u64 ei=ei:=by rw[qw];exact wrap_u64 (by omega) (by omega)
   cbv;rw[he1,ew];have hei:ei=(OL:Int):=hei;by_cases hts:siz<OUT.length
   ·have hP:BP=.bad 11:=by rw[hB3];exact hlim2 _ _ _ hbig ⟨rfl,hts⟩
    have g6:vc .gtr ei siz=true:=by rw[qc,gtr_true];omega
    rw[g6];cbv;rw[tol];refine⟨⟨hic⟩,?_⟩
    rw[kk3'];rcases hhold with hz|hz
    ·have hls:vc .eql h2 1=false:=by rw[qc,kh];omega
     rw[hls];cbv;(repeat refine And.intro (fun _=>rfl) ?_);exact .inr (fun js=>hE 11 hP _ _ _ _ _ _ _ _ _ _ _ _ _ _ _ _ _ _ _ _ _ _ _ _ _ _ _ _ _ _ _ _)
    ·have hls:vc .eql h2 1=true:=by rw[qc,kt];omega
     rw[hls];cbv;(repeat refine And.intro (fun _=>rfl) ?_);exact .inr (fun js=>hE 11 hP _ _ _ _ _ _ _ _ _ _ _ _ _ _ _ _ _ _ _ _ _ _ _ _ _ _ _ _ _ _ _ _)
   ·have htd:¬(true=true∧siz<OUT.length):=fun h=>hts h.2
    have g6:vc .gtr ei siz=false:=by rw[qc,gtr_false];omega
    rw[g6];cbv;rw[kk3'];rcases hhold with hz|hz
    ·have hls:vc .eql h2 1=false:=by rw[qc,kh];omega
     rw[hls];cbv;(repeat refine And.intro (fun _=>rfl) ?_);exact .inl (hG _ _ _ _ _ _ _ _ _ _ _ _ _ _ _ _ _ _ _ _ _ _ _ _ _ _ _ _ _ _ _ _ _ _ _ (by rw[hB3,hlim3 _ _ _ hbig htd,hlastF hz]) s2 hq2' hc2' hu2' hwl hOL2 hc6 (Nat.le_refl _))
    ·have hls:vc .eql h2 1=true:=by rw[qc,kt];omega
     rw[hls];cbv;(repeat refine And.intro (fun _=>rfl) ?_);exact .inl (hG _ _ _ _ _ _ _ _ _ _ _ _ _ _ _ _ _ _ _ _ _ _ _ _ _ _ _ _ _ _ _ _ _ _ _ (by rw[hB3,hlim3 _ _ _ hbig htd,hlastT hz]) s2 hq2' hc2' hu2' hwl hOL2 hc6 (Nat.le_refl _))
 by_cases hk1:kd=1
 ·have hnB:nB h=1:=by unfold nB;rw[←hkd,if_pos hk1]
  rw[hnB] at hB3;obtain⟨n,hn⟩:∃x,x=1:=⟨_,rfl⟩;rw[←hn] at hB3;by_cases hn4:L<k+3+n
  ·have hP:BP=.bad 10:=by rw[hB3,if_pos (by omega)]
   have hb2:=kax bs o1 q1 c1 u1 1 (by omega);refine kf (j3 0 [0,1,2,3] (kw 8 (by simp) (ju [1,2,3,4,5] (kc kj kc9 ?_))))
   intro vb vc vw vtoN vofN vaddN vsubN vmaxI vminI vcutN vgd vst vln vrep vsub vonto vsplice vstrEq vbyteV vnotB veqB hw qb qc qw qtoN qofN qaddN qsubN qmaxI qminI qcutN qgd qst qln qrep qsub qonto qsplice qstrEq qbyteV qnotB qeqB;have hm:=kj;generalize Try.prog=P at *;have hnt:vnotB true=false:=by rw[qnotB];rfl
   have hnf:vnotB false=true:=by rw[qnotB];rfl
   cbv;(repeat refine And.intro (fun _=>rfl) ?_);refine ka (ρ:=[(6,.z),(7,.z)]) hb1 ⟨by rfl,by rfl,by rfl,by cbv;(repeat' first|(refine And.intro ?_ ?_)|exact trivial|exact⟨Nat.le_refl _⟩|exact kb _|exact fun _=>rfl|(simp only[renL3];done)|(show SB.roA _ _ _=SB.roA _ _ _;rfl)|exact funext fun _=>rfl)⟩ ?_
   rintro v H R js ⟨rfl,rfl,rfl⟩;cbv;(repeat refine And.intro (fun _=>rfl) ?_);rw[hnt];cbv;refine ka (ρ:=[(7,.n o)]) hn1 ⟨by rfl,by rfl,by rfl,by cbv;(repeat' first|(refine And.intro ?_ ?_)|exact trivial|exact hv1|exact fun _=>rfl|rfl)⟩ ?_
   rintro v H R js2 ⟨rfl,rfl,rfl⟩;have kk0:vw .i64 h=h:=by rw[qw];exact kk0
   have kk1:vb .and .i64 (vb .shr .i64 h 1) 3=kd:=by rw[qb];exact kk1
   have kk2:vb .shr .i64 h 3=sz:=by rw[qb];exact kk2
   cbv;(repeat refine And.intro (fun _=>rfl) ?_);rw[kk0,kk1,kk2];have g3:vc .eql kd 3=false:=by rw[qc,kh];exact hk3
   have g4:vc .gtr sz most=false:=by rw[qc,gtr_false];exact hms
   rw[g3];cbv;rw[g4];cbv;have g1:vc .eql kd 1=true:=by rw[qc,kt];omega
   rw[g1];cbv;refine ka (ρ:=[(6,.z),(7,.z)]) hb2 ⟨by rfl,by rfl,by rfl,by cbv;(repeat' first|(refine And.intro ?_ ?_)|exact trivial|exact⟨Nat.le_refl _⟩|exact kb _|exact fun _=>rfl|(simp only[renL3];done)|(show SB.roA _ _ _=SB.roA _ _ _;rfl)|exact funext fun _=>rfl)⟩ ?_
   rintro v H R js3 ⟨rfl,rfl,rfl⟩;cbv;(repeat refine And.intro (fun _=>rfl) ?_);rw[hnf];cbv;(repeat refine And.intro (fun _=>rfl) ?_);exact .inr (fun js=>hE 10 hP _ _ _ _ _ _ _ _ _ _ _ _ _ _ _ _ _ _ _ _ _ _ _ _ _ _ _ _ _ _ _ _)
  obtain⟨o2,ho2⟩:∃x,x=if c1=n then o1 else o1+n:=⟨_,rfl⟩
  obtain⟨q2,hq2⟩:∃x,x=q1-n:=⟨_,rfl⟩;obtain⟨c2,hc2⟩:∃x,x=c1-n:=⟨_,rfl⟩;obtain⟨u2,hu2⟩:∃x,x=u1+1:=⟨_,rfl⟩;have hb2:=kbt bs o1 q1 c1 n o2 q2 c2 u1 1 u2 (by omega) (by omega) (by have:=hSA.Lc;omega) (by omega) ho2 hq2 hc2 hu2;have s2:=s1.take (n:=n) (o2:=o2) (by omega) (by rw[show cap-(k+3)=c1 by omega];exact ho2);have hv2:=s1.view hL (n:=n) (by omega);have hsub:=s1.sub hL (n:=n) (by omega);have hole:o1+n≤L:=by have:=s1.ok;omega
  have hSl:(sg bs (k+3) n).length=n:=kP (by omega);have hS8:=qr hb8 (k+3) n;obtain⟨S,hS⟩:∃l,l=sg bs (k+3) n:=⟨_,rfl⟩;rw[←hS] at hv2 hSl hS8 hsub;rw[if_neg (by omega),←hS] at hB3;have hn13:n≤131072:=by omega
  have hq2':q2=L-(k+3+n):=by omega
  have hc2':c2=cap-(k+3+n):=by omega
  have hu2':u2=((k+3+n:Nat):Int):=by omega
  have hlastF:h2=0→decide (h % 2=1)=false:=fun h=>by simp;omega
  have hlastT:h2=1→decide (h % 2=1)=true:=fun h=>by simp;omega
  have f0:kfT win most kd sz S ⟨w,⟨n0,x0,y0,z0⟩,⟨n1,x1,y1,z1⟩,⟨n2,x2,y2,z2⟩,a,b,c,out⟩=some (kpx ⟨w,⟨n0,x0,y0,z0⟩,⟨n1,x1,y1,z1⟩,⟨n2,x2,y2,z2⟩,a,b,c,out⟩ (List.replicate sz.toNat (S.getD 0 0))):=by unfold kfT;rw[if_neg hk0,if_pos hk1]
  rw[f0] at hB3;obtain⟨xn,hxn⟩:∃x,x=sz.toNat:=⟨_,rfl⟩;obtain⟨XS,hXS⟩:∃l,l=(List.replicate sz.toNat (S.getD 0 0)):=⟨_,rfl⟩;have hXl:XS.length=xn:=by rw[hXS,hxn];exact List.length_replicate
  rw[←hXS] at hB3;obtain⟨OUT,hOUT⟩:∃l,l=out++XS:=⟨_,rfl⟩;have hB3:BP=kd0 siz told (decide (h % 2=1)) (k+3+n) (some ⟨w,⟨n0,x0,y0,z0⟩,⟨n1,x1,y1,z1⟩,⟨n2,x2,y2,z2⟩,a,b,c,OUT⟩):=by rw[hB3,hOUT];rfl
  obtain⟨OL,hOL⟩:∃x,x=ol+xn:=⟨_,rfl⟩;have hOL2:OL=OUT.length:=by rw[hOUT,List.length_append,hXl,hOL,hol]
  have hxn3:xn≤131072:=by omega
  obtain⟨ei,hei⟩:∃x:Int,x=OL:=⟨_,rfl⟩;obtain⟨y,hy⟩:∃x,x=S.getD 0 0:=⟨_,rfl⟩;have hSy:S=[y]:=by
   rw[hn] at hSl;match S,hSl with
   |[z],_=>rw[hy];rfl
  have hrep:=kcL y 1 sz (hS8 y (by rw[hSy];exact List.mem_singleton.2 rfl)) ⟨by omega,by omega⟩;rw[←hxn,←hy] at *
  rw[hSy] at hv2;refine kf (j3 0 [0,1,2,3] (kw 8 (by simp) (ju [1,2,3,4,5] (kc kj kc9 ?_))))
  intro vb vc vw vtoN vofN vaddN vsubN vmaxI vminI vcutN vgd vst vln vrep vsub vonto vsplice vstrEq vbyteV vnotB veqB hw qb qc qw qtoN qofN qaddN qsubN qmaxI qminI qcutN qgd qst qln qrep qsub qonto qsplice qstrEq qbyteV qnotB qeqB;have hm:=kj;generalize Try.prog=P at *;have hnt:vnotB true=false:=by rw[qnotB];rfl
  have hnf:vnotB false=true:=by rw[qnotB];rfl
  cbv;(repeat refine And.intro (fun _=>rfl) ?_);refine ka (ρ:=[(6,.z),(7,.z)]) hb1 ⟨by rfl,by rfl,by rfl,by cbv;(repeat' first|(refine And.intro ?_ ?_)|exact trivial|exact⟨Nat.le_refl _⟩|exact kb _|exact fun _=>rfl|(simp only[renL3];done)|(show SB.roA _ _ _=SB.roA _ _ _;rfl)|exact funext fun _=>rfl)⟩ ?_
  rintro v H R js ⟨rfl,rfl,rfl⟩;cbv;(repeat refine And.intro (fun _=>rfl) ?_);rw[hnt];cbv;refine ka (ρ:=[(7,.n o)]) hn1 ⟨by rfl,by rfl,by rfl,by cbv;(repeat' first|(refine And.intro ?_ ?_)|exact trivial|exact hv1|exact fun _=>rfl|rfl)⟩ ?_
  rintro v H R js2 ⟨rfl,rfl,rfl⟩;have kk0:vw .i64 h=h:=by rw[qw];exact kk0
  have kk1:vb .and .i64 (vb .shr .i64 h 1) 3=kd:=by rw[qb];exact kk1
  have kk2:vb .shr .i64 h 3=sz:=by rw[qb];exact kk2
  cbv;(repeat refine And.intro (fun _=>rfl) ?_);rw[kk0,kk1,kk2];have g3:vc .eql kd 3=false:=by rw[qc,kh];exact hk3
  have g4:vc .gtr sz most=false:=by rw[qc,gtr_false];exact hms
  rw[g3];cbv;rw[g4];cbv;have g1:vc .eql kd 1=true:=by rw[qc,kt];omega
  rw[g1];cbv;refine ka (ρ:=[(6,.z),(7,.z)]) hb2 ⟨by rfl,by rfl,by rfl,by cbv;(repeat' first|(refine And.intro ?_ ?_)|exact trivial|exact⟨Nat.le_refl _⟩|exact kb _|exact fun _=>rfl|(simp only[renL3];done)|(show SB.roA _ _ _=SB.roA _ _ _;rfl)|exact funext fun _=>rfl)⟩ ?_
  rintro v H R js3 ⟨rfl,rfl,rfl⟩;cbv;(repeat refine And.intro (fun _=>rfl) ?_);rw[hnt];cbv;have ho0:vofN ol=oli:=by rw[qofN];exact holi.symm
  have tol:vtoN oli=ol:=by rw[holi];simp only[qtoN,Int.toNat_natCast]
  have kk3':vb .and .i64 h 1=h2:=by rw[qb];exact kk3
  rw[ho0];have g0:vc .eql kd 0=false:=by rw[qc,kh];omega
  rw[g0];cbv;rw[show vc .eql kd 1=true by rw[qc,kt];omega];cbv;have e1:vaddN ol xn=OL:=by rw[qaddN];exact hOL.symm
  have e2:vonto out ol XS=OUT:=by rw[qonto,hol,hOUT];exact congrArg (·++XS) List.take_length
  have a2:ol≤vln out:=by rw[qln];exact Nat.le_of_eq hol
  have a3:OL*1≤140737488355328:=by omega
  have he1:vofN OL=ei:=by rw[qofN];exact hei.symm
  rw[hn];refine ka (ρ:=[(7,.n o1)]) hrep ⟨by rfl,by rfl,by rfl,by cbv;(repeat' first|(refine And.intro ?_ ?_)|exact trivial|exact hv2|exact fun _=>rfl|rfl)⟩ ?_
  rintro v H R js5 ⟨rfl,LL,cc,hl1,hl2,rfl,rfl,hl3⟩;have a0:vsub LL 0 xn=XS:=by
   rw[qsub];show(LL.drop 0).take xn=XS
   rw[List.drop_zero,hl2,hXS,hSy];rfl
  have a1:vaddN 0 xn≤vln LL:=by simp only[qaddN,qln];omega
  cbv;(repeat refine And.intro (fun _=>rfl) ?_);rw[a0,e1];refine⟨⟨a1⟩,⟨a2⟩,⟨hoc2⟩,⟨a3⟩,?_⟩
  (repeat refine And.intro (fun _=>rfl) ?_);intro c5 jv hc5;have hc6:OL≤c5:=by have h9:vaddN ol xn≤c5:=hc5.out;rwa [e1] at h9
  have holi:oli=(ol:Int):=holi;have hei:ei=(OL:Int):=hei;have hic:0≤oli∧oli≤(c5:Int):=by omega
  cbv;rw[e2,e1];have hei:ei=(OL:Int):=hei;rw[he1];have hei:ei=(OL:Int):=hei;by_cases hbig:16777216<OUT.length
  ·have hP:BP=.bad 3:=by rw[hB3];exact hlim1 _ _ _ hbig
   have g5:vc .gtr ei 16777216=true:=by rw[qc,gtr_true];omega
   rw[g5];cbv;rw[tol];refine⟨⟨hic⟩,?_⟩
   rw[kk3'];rcases hhold with hz|hz
   ·have hls:vc .eql h2 1=false:=by rw[qc,kh];omega
    rw[hls];cbv;(repeat refine And.intro (fun _=>rfl) ?_);exact .inr (fun js=>hE 3 hP _ _ _ _ _ _ _ _ _ _ _ _ _ _ _ _ _ _ _ _ _ _ _ _ _ _ _ _ _ _ _ _)
   ·have hls:vc .eql h2 1=true:=by rw[qc,kt];omega
    rw[hls];cbv;(repeat refine And.intro (fun _=>rfl) ?_);exact .inr (fun js=>hE 3 hP _ _ _ _ _ _ _ _ _ _ _ _ _ _ _ _ _ _ _ _ _ _ _ _ _ _ _ _ _ _ _ _)
  have g5:vc .gtr ei 16777216=false:=by rw[qc,gtr_false];omega
  rw[g5];cbv;cases told
  ·have htd:¬(false=true∧siz<OUT.length):=fun h=>by cases h.1
   cbv;rw[kk3'];rcases hhold with hz|hz
   ·have hls:vc .eql h2 1=false:=by rw[qc,kh];omega
    rw[hls];cbv;(repeat refine And.intro (fun _=>rfl) ?_);exact .inl (hG _ _ _ _ _ _ _ _ _ _ _ _ _ _ _ _ _ _ _ _ _ _ _ _ _ _ _ _ _ _ _ _ _ _ _ (by rw[hB3,hlim3 _ _ _ hbig htd,hlastF hz]) s2 hq2' hc2' hu2' hwl hOL2 hc6 (Nat.le_refl _))
   ·have hls:vc .eql h2 1=true:=by rw[qc,kt];omega
    rw[hls];cbv;(repeat refine And.intro (fun _=>rfl) ?_);exact .inl (hG _ _ _ _ _ _ _ _ _ _ _ _ _ _ _ _ _ _ _ _ _ _ _ _ _ _ _ _ _ _ _ _ _ _ _ (by rw[hB3,hlim3 _ _ _ hbig htd,hlastT hz]) s2 hq2' hc2' hu2' hwl hOL2 hc6 (Nat.le_refl _))
  ·have hei:ei=(OL:Int):=hei;have ew:vw .u64 ei=ei:=by rw[qw];exact wrap_u64 (by omega) (by omega)
   cbv;rw[he1,ew];have hei:ei=(OL:Int):=hei;by_cases hts:siz<OUT.length
   ·have hP:BP=.bad 11:=by rw[hB3];exact hlim2 _ _ _ hbig ⟨rfl,hts⟩
    have g6:vc .gtr ei siz=true:=by rw[qc,gtr_true];omega
    rw[g6];cbv;rw[tol];refine⟨⟨hic⟩,?_⟩
    rw[kk3'];rcases hhold with hz|hz
    ·have hls:vc .eql h2 1=false:=by rw[qc,kh];omega
     rw[hls];cbv;(repeat refine And.intro (fun _=>rfl) ?_);exact .inr (fun js=>hE 11 hP _ _ _ _ _ _ _ _ _ _ _ _ _ _ _ _ _ _ _ _ _ _ _ _ _ _ _ _ _ _ _ _)
    ·have hls:vc .eql h2 1=true:=by rw[qc,kt];omega
     rw[hls];cbv;(repeat refine And.intro (fun _=>rfl) ?_);exact .inr (fun js=>hE 11 hP _ _ _ _ _ _ _ _ _ _ _ _ _ _ _ _ _ _ _ _ _ _ _ _ _ _ _ _ _ _ _ _)
   ·have htd:¬(true=true∧siz<OUT.length):=fun h=>hts h.2
    have g6:vc .gtr ei siz=false:=by rw[qc,gtr_false];omega
    rw[g6];cbv;rw[kk3'];rcases hhold with hz|hz
    ·have hls:vc .eql h2 1=false:=by rw[qc,kh];omega
     rw[hls];cbv;(repeat refine And.intro (fun _=>rfl) ?_);exact .inl (hG _ _ _ _ _ _ _ _ _ _ _ _ _ _ _ _ _ _ _ _ _ _ _ _ _ _ _ _ _ _ _ _ _ _ _ (by rw[hB3,hlim3 _ _ _ hbig htd,hlastF hz]) s2 hq2' hc2' hu2' hwl hOL2 hc6 (Nat.le_refl _))
    ·have hls:vc .eql h2 1=true:=by rw[qc,kt];omega
     rw[hls];cbv;(repeat refine And.intro (fun _=>rfl) ?_);exact .inl (hG _ _ _ _ _ _ _ _ _ _ _ _ _ _ _ _ _ _ _ _ _ _ _ _ _ _ _ _ _ _ _ _ _ _ _ (by rw[hB3,hlim3 _ _ _ hbig htd,hlastT hz]) s2 hq2' hc2' hu2' hwl hOL2 hc6 (Nat.le_refl _))
 have hk2:kd=2:=by omega
 have hnB:nB h=sz.toNat:=by unfold nB;rw[←hkd,if_neg (by omega),←hsz]
 rw[hnB] at hB3;obtain⟨n,hn⟩:∃x,x=sz.toNat:=⟨_,rfl⟩;rw[←hn] at hB3;by_cases hn4:L<k+3+n
 ·have hP:BP=.bad 10:=by rw[hB3,if_pos (by omega)]
  have hb2:=kax bs o1 q1 c1 u1 sz (by omega);refine kf (j3 0 [0,1,2,3] (kw 8 (by simp) (ju [1,2,3,4,5] (kc kj kc9 ?_))))
  intro vb vc vw vtoN vofN vaddN vsubN vmaxI vminI vcutN vgd vst vln vrep vsub vonto vsplice vstrEq vbyteV vnotB veqB hw qb qc qw qtoN qofN qaddN qsubN qmaxI qminI qcutN qgd qst qln qrep qsub qonto qsplice qstrEq qbyteV qnotB qeqB;have hm:=kj;generalize Try.prog=P at *;have hnt:vnotB true=false:=by rw[qnotB];rfl
  have hnf:vnotB false=true:=by rw[qnotB];rfl
  cbv;(repeat refine And.intro (fun _=>rfl) ?_);refine ka (ρ:=[(6,.z),(7,.z)]) hb1 ⟨by rfl,by rfl,by rfl,by cbv;(repeat' first|(refine And.intro ?_ ?_)|exact trivial|exact⟨Nat.le_refl _⟩|exact kb _|exact fun _=>rfl|(simp only[renL3];done)|(show SB.roA _ _ _=SB.roA _ _ _;rfl)|exact funext fun _=>rfl)⟩ ?_
  rintro v H R js ⟨rfl,rfl,rfl⟩;cbv;(repeat refine And.intro (fun _=>rfl) ?_);rw[hnt];cbv;refine ka (ρ:=[(7,.n o)]) hn1 ⟨by rfl,by rfl,by rfl,by cbv;(repeat' first|(refine And.intro ?_ ?_)|exact trivial|exact hv1|exact fun _=>rfl|rfl)⟩ ?_
  rintro v H R js2 ⟨rfl,rfl,rfl⟩;have kk0:vw .i64 h=h:=by rw[qw];exact kk0
  have kk1:vb .and .i64 (vb .shr .i64 h 1) 3=kd:=by rw[qb];exact kk1
  have kk2:vb .shr .i64 h 3=sz:=by rw[qb];exact kk2
  cbv;(repeat refine And.intro (fun _=>rfl) ?_);rw[kk0,kk1,kk2];have g3:vc .eql kd 3=false:=by rw[qc,kh];exact hk3
  have g4:vc .gtr sz most=false:=by rw[qc,gtr_false];exact hms
  rw[g3];cbv;rw[g4];cbv;have g1:vc .eql kd 1=false:=by rw[qc,kh];omega
  rw[g1];cbv;refine ka (ρ:=[(6,.z),(7,.z)]) hb2 ⟨by rfl,by rfl,by rfl,by cbv;(repeat' first|(refine And.intro ?_ ?_)|exact trivial|exact⟨Nat.le_refl _⟩|exact kb _|exact fun _=>rfl|(simp only[renL3];done)|(show SB.roA _ _ _=SB.roA _ _ _;rfl)|exact funext fun _=>rfl)⟩ ?_
  rintro v H R js3 ⟨rfl,rfl,rfl⟩;cbv;(repeat refine And.intro (fun _=>rfl) ?_);rw[hnf];cbv;(repeat refine And.intro (fun _=>rfl) ?_);exact .inr (fun js=>hE 10 hP _ _ _ _ _ _ _ _ _ _ _ _ _ _ _ _ _ _ _ _ _ _ _ _ _ _ _ _ _ _ _ _)
 obtain⟨o2,ho2⟩:∃x,x=if c1=n then o1 else o1+n:=⟨_,rfl⟩
 obtain⟨q2,hq2⟩:∃x,x=q1-n:=⟨_,rfl⟩;obtain⟨c2,hc2⟩:∃x,x=c1-n:=⟨_,rfl⟩;obtain⟨u2,hu2⟩:∃x,x=u1+sz:=⟨_,rfl⟩;have hb2:=kbt bs o1 q1 c1 n o2 q2 c2 u1 sz u2 (by omega) (by omega) (by have:=hSA.Lc;omega) (by omega) ho2 hq2 hc2 hu2;have s2:=s1.take (n:=n) (o2:=o2) (by omega) (by rw[show cap-(k+3)=c1 by omega];exact ho2);have hv2:=s1.view hL (n:=n) (by omega);have hsub:=s1.sub hL (n:=n) (by omega);have hole:o1+n≤L:=by have:=s1.ok;omega
 have hSl:(sg bs (k+3) n).length=n:=kP (by omega);have hS8:=qr hb8 (k+3) n;obtain⟨S,hS⟩:∃l,l=sg bs (k+3) n:=⟨_,rfl⟩;rw[←hS] at hv2 hSl hS8 hsub;rw[if_neg (by omega),←hS] at hB3;have hn13:n≤131072:=by omega
 have hq2':q2=L-(k+3+n):=by omega
 have hc2':c2=cap-(k+3+n):=by omega
 have hu2':u2=((k+3+n:Nat):Int):=by omega
 have hlastF:h2=0→decide (h % 2=1)=false:=fun h=>by simp;omega
 have hlastT:h2=1→decide (h % 2=1)=true:=fun h=>by simp;omega
 have f0:kfT win most kd sz S ⟨w,⟨n0,x0,y0,z0⟩,⟨n1,x1,y1,z1⟩,⟨n2,x2,y2,z2⟩,a,b,c,out⟩=kdn win most S ⟨w,⟨n0,x0,y0,z0⟩,⟨n1,x1,y1,z1⟩,⟨n2,x2,y2,z2⟩,a,b,c,out⟩:=by unfold kfT;rw[if_neg hk0,if_neg hk1]
 rw[f0] at hB3;have hpk:=kqJ w out S wl wc wc2 n0 n1 n2 k0 k1 k2 j0 j1 j2 ol oc oc2 n n x0 y0 z0 x1 y1 z1 x2 y2 z2 a b c win most siz skip gone told sm hS8 hSl.symm (Nat.le_refl _) (by omega) hF hwl hol hoc hoc2 (by omega) hmost;obtain⟨PK,hPK⟩:∃x,x=kdn win most S ⟨w,⟨n0,x0,y0,z0⟩,⟨n1,x1,y1,z1⟩,⟨n2,x2,y2,z2⟩,a,b,c,out⟩:=⟨_,rfl⟩;rw[←hPK] at hpk hB3;refine kf (j3 0 [0,1,2,3] (kw 8 (by simp) (ju [1,2,3,4,5] (kc kj kc9 ?_))))
 intro vb vc vw vtoN vofN _ _ _ _ _ _ _ _ _ _ _ _ _ _ vnotB _ _ qb qc qw qtoN qofN _ _ _ _ _ _ _ _ _ _ _ _ _ _ qnotB _;have hm:=kj;generalize Try.prog=P at *;have hnt:vnotB true=false:=by rw[qnotB];rfl
 have hnf:vnotB false=true:=by rw[qnotB];rfl
 cbv;(repeat refine And.intro (fun _=>rfl) ?_);refine ka (ρ:=[(6,.z),(7,.z)]) hb1 ⟨by rfl,by rfl,by rfl,by cbv;(repeat' first|(refine And.intro ?_ ?_)|exact trivial|exact⟨Nat.le_refl _⟩|exact kb _|exact fun _=>rfl|(simp only[renL3];done)|(show SB.roA _ _ _=SB.roA _ _ _;rfl)|exact funext fun _=>rfl)⟩ ?_
 rintro v H R js ⟨rfl,rfl,rfl⟩;cbv;(repeat refine And.intro (fun _=>rfl) ?_);rw[hnt];cbv;refine ka (ρ:=[(7,.n o)]) hn1 ⟨by rfl,by rfl,by rfl,by cbv;(repeat' first|(refine And.intro ?_ ?_)|exact trivial|exact hv1|exact fun _=>rfl|rfl)⟩ ?_
 rintro v H R js2 ⟨rfl,rfl,rfl⟩;have kk0:vw .i64 h=h:=by rw[qw];exact kk0
 have kk1:vb .and .i64 (vb .shr .i64 h 1) 3=kd:=by rw[qb];exact kk1
 have kk2:vb .shr .i64 h 3=sz:=by rw[qb];exact kk2
 cbv;(repeat refine And.intro (fun _=>rfl) ?_);rw[kk0,kk1,kk2];have g3:vc .eql kd 3=false:=by rw[qc,kh];exact hk3
 have g4:vc .gtr sz most=false:=by rw[qc,gtr_false];exact hms
 rw[g3];cbv;rw[g4];cbv;have g1:vc .eql kd 1=false:=by rw[qc,kh];omega
 rw[g1];cbv;refine ka (ρ:=[(6,.z),(7,.z)]) hb2 ⟨by rfl,by rfl,by rfl,by cbv;(repeat' first|(refine And.intro ?_ ?_)|exact trivial|exact⟨Nat.le_refl _⟩|exact kb _|exact fun _=>rfl|(simp only[renL3];done)|(show SB.roA _ _ _=SB.roA _ _ _;rfl)|exact funext fun _=>rfl)⟩ ?_
 rintro v H R js3 ⟨rfl,rfl,rfl⟩;cbv;(repeat refine And.intro (fun _=>rfl) ?_);rw[hnt];cbv;have ho0:vofN ol=oli:=by rw[qofN];exact holi.symm
 have tol:vtoN oli=ol:=by rw[holi];simp only[qtoN,Int.toNat_natCast]
 have kk3':vb .and .i64 h 1=h2:=by rw[qb];exact kk3
 rw[ho0];have g0:vc .eql kd 0=false:=by rw[qc,kh];omega
 rw[g0];cbv;rw[show vc .eql kd 1=false by rw[qc,kh];omega];cbv;rw[show vc .eql kd 2=true by rw[qc,kt];omega];cbv;refine ka (ρ:=[(0,.z),(1,.z),(2,.z),(3,.z),(4,.z),(5,.z),(7,.n o1)]) hpk ⟨by rfl,by rfl,by rfl,by cbv;(repeat' first|(refine And.intro ?_ ?_)|exact trivial|exact hv2|exact fun _=>rfl|rfl)⟩ ?_
 rintro v H R js5 ⟨rfl,⟨rfl,hPn,u0,u1,u2,u3,W,OUT,WC2,N0,N1,N2,J0,J1,J2,OL,OC,OC2,X0,Y0,Z0,X1,Y1,Z1,X2,Y2,Z2,A,B,C,hoC,rfl⟩|⟨rfl,W,OUT,WL,WC,WC2,N0,N1,N2,K0,K1,K2,J0,J1,J2,OL,OC,OC2,X0,Y0,Z0,X1,Y1,Z1,X2,Y2,Z2,A,B,C,hPs,hW1,hO1,hO2,hO3,hO4,rfl⟩⟩
 ·have hP:BP=.bad 11:=by rw[hB3,hPn];rfl
  have holi:oli=(ol:Int):=holi;have hic:0≤oli∧oli≤(OC:Int):=by omega
  cbv;(repeat refine And.intro (fun _=>rfl) ?_);simp only[renL3];rw[tol];refine⟨⟨hic⟩,?_⟩
  rw[kk3'];rcases hhold with hz|hz
  ·have hls:vc .eql h2 1=false:=by rw[qc,kh];omega
   rw[hls];cbv;(repeat refine And.intro (fun _=>rfl) ?_);exact .inr (fun js=>hE 11 hP _ _ _ _ _ _ _ _ _ _ _ _ _ _ _ _ _ _ _ _ _ _ _ _ _ _ _ _ _ _ _ _)
  ·have hls:vc .eql h2 1=true:=by rw[qc,kt];omega
   rw[hls];cbv;(repeat refine And.intro (fun _=>rfl) ?_);exact .inr (fun js=>hE 11 hP _ _ _ _ _ _ _ _ _ _ _ _ _ _ _ _ _ _ _ _ _ _ _ _ _ _ _ _ _ _ _ _)
 ·rw [hPs] at hB3
  have holi:oli=(ol:Int):=holi;have hic:0≤oli∧oli≤(OC:Int):=by omega
  refine Exists.elim (kX (OL:Int)) (fun ei hei=>?_)
  have he1:vofN OL=ei:=by rw[qofN];exact hei.symm
  cbv;(repeat refine And.intro (fun _=>rfl) ?_);simp only[renL3];rw[he1];have hei:ei=(OL:Int):=hei;by_cases hbig:16777216<OUT.length
  ·have hP:BP=.bad 3:=by rw[hB3];exact hlim1 _ _ _ hbig
   have g5:vc .gtr ei 16777216=true:=by rw[qc,gtr_true];omega
   rw[g5];cbv;rw[tol];refine⟨⟨hic⟩,?_⟩
   rw[kk3'];rcases hhold with hz|hz
   ·have hls:vc .eql h2 1=false:=by rw[qc,kh];omega
    rw[hls];cbv;(repeat refine And.intro (fun _=>rfl) ?_);exact .inr (fun js=>hE 3 hP _ _ _ _ _ _ _ _ _ _ _ _ _ _ _ _ _ _ _ _ _ _ _ _ _ _ _ _ _ _ _ _)
   ·have hls:vc .eql h2 1=true:=by rw[qc,kt];omega
    rw[hls];cbv;(repeat refine And.intro (fun _=>rfl) ?_);exact .inr (fun js=>hE 3 hP _ _ _ _ _ _ _ _ _ _ _ _ _ _ _ _ _ _ _ _ _ _ _ _ _ _ _ _ _ _ _ _)
  have g5:vc .gtr ei 16777216=false:=by rw[qc,gtr_false];omega
  rw[g5];cbv;cases told
  ·have htd:¬(false=true∧siz<OUT.length):=fun h=>by cases h.1
   cbv;rw[kk3'];rcases hhold with hz|hz
   ·have hls:vc .eql h2 1=false:=by rw[qc,kh];omega
    rw[hls];cbv;(repeat refine And.intro (fun _=>rfl) ?_);exact .inl (hG _ _ _ _ _ _ _ _ _ _ _ _ _ _ _ _ _ _ _ _ _ _ _ _ _ _ _ _ _ _ _ _ _ _ _ (by rw[hB3,hlim3 _ _ _ hbig htd,hlastF hz]) s2 hq2' hc2' hu2' hW1 hO1 hO2 hO3)
   ·have hls:vc .eql h2 1=true:=by rw[qc,kt];omega
    rw[hls];cbv;(repeat refine And.intro (fun _=>rfl) ?_);exact .inl (hG _ _ _ _ _ _ _ _ _ _ _ _ _ _ _ _ _ _ _ _ _ _ _ _ _ _ _ _ _ _ _ _ _ _ _ (by rw[hB3,hlim3 _ _ _ hbig htd,hlastT hz]) s2 hq2' hc2' hu2' hW1 hO1 hO2 hO3)
  ·have hei:ei=(OL:Int):=hei;have ew:vw .u64 ei=ei:=by rw[qw];exact wrap_u64 (by omega) (by omega)
   cbv;rw[he1,ew];have hei:ei=(OL:Int):=hei;by_cases hts:siz<OUT.length
   ·have hP:BP=.bad 11:=by rw[hB3];exact hlim2 _ _ _ hbig ⟨rfl,hts⟩
    have g6:vc .gtr ei siz=true:=by rw[qc,gtr_true];omega
    rw[g6];cbv;rw[tol];refine⟨⟨hic⟩,?_⟩
    rw[kk3'];rcases hhold with hz|hz
    ·have hls:vc .eql h2 1=false:=by rw[qc,kh];omega
     rw[hls];cbv;(repeat refine And.intro (fun _=>rfl) ?_);exact .inr (fun js=>hE 11 hP _ _ _ _ _ _ _ _ _ _ _ _ _ _ _ _ _ _ _ _ _ _ _ _ _ _ _ _ _ _ _ _)
    ·have hls:vc .eql h2 1=true:=by rw[qc,kt];omega
     rw[hls];cbv;(repeat refine And.intro (fun _=>rfl) ?_);exact .inr (fun js=>hE 11 hP _ _ _ _ _ _ _ _ _ _ _ _ _ _ _ _ _ _ _ _ _ _ _ _ _ _ _ _ _ _ _ _)
   ·have htd:¬(true=true∧siz<OUT.length):=fun h=>hts h.2
    have g6:vc .gtr ei siz=false:=by rw[qc,gtr_false];omega
    rw[g6];cbv;rw[kk3'];rcases hhold with hz|hz
    ·have hls:vc .eql h2 1=false:=by rw[qc,kh];omega
     rw[hls];cbv;(repeat refine And.intro (fun _=>rfl) ?_);exact .inl (hG _ _ _ _ _ _ _ _ _ _ _ _ _ _ _ _ _ _ _ _ _ _ _ _ _ _ _ _ _ _ _ _ _ _ _ (by rw[hB3,hlim3 _ _ _ hbig htd,hlastF hz]) s2 hq2' hc2' hu2' hW1 hO1 hO2 hO3)
    ·have hls:vc .eql h2 1=true:=by rw[qc,kt];omega
     rw[hls];cbv;(repeat refine And.intro (fun _=>rfl) ?_);exact .inl (hG _ _ _ _ _ _ _ _ _ _ _ _ _ _ _ _ _ _ _ _ _ _ _ _ _ _ _ _ _ _ _ _ _ _ _ (by rw[hB3,hlim3 _ _ _ hbig htd,hlastT hz]) s2 hq2' hc2' hu2' hW1 hO1 hO2 hO3)
theorem kn5 (w out bs:List Int) (wl wc wc2 n0 n1 n2 k0 k1 k2 j0 j1 j2 ol oc oc2:Nat) (x0 y0 z0 x1 y1 z1 x2 y2 z2:Nat→Int) (a b c win most siz skip gone:Int) (told sm:Bool) (L cap o qn cp k:Nat) (u:Int) (hb8:∀x∈bs,kF x) (hL:L=bs.length) (hLc:L≤cap) (hLm:L≤140737488355328) (hSA:SA L cap o k) (hqn:qn=L-k) (hcp:cp=cap-k) (hu:u=k) (hF:kcp ⟨w,⟨n0,x0,y0,z0⟩,⟨n1,x1,y1,z1⟩,⟨n2,x2,y2,z2⟩,a,b,c,out⟩) (hwl:wl=w.length) (hol:ol=out.length) (hoc:ol≤oc) (hoc2:oc≤oc2) (hout:ol≤16777216) (hmost:0≤most∧most≤131072) :
  Con Try.prog 103 [.ptr 0 .z 15 0,.ptr 6 .z 3 0] [.one 107 [.slice 1 .z 1 wl wc,.slice 2 .z 3 n0 k0,.slice 3 .z 3 n1 k1,.slice 4 .z 3 n2 k2,.int .i64 a,.int .i64 b,.int .i64 c,.int .u64 win,.int .i64 most,.int .u64 siz,.bool told,.bool sm,.int .u64 skip,.slice 5 .z 1 ol oc,.int .i64 gone],.buf 5 .u8 w wc2,.bufA 79 3 n0 (fun m=>[.int .u8 (x0 m),.int .u8 (y0 m),.int .u16 (z0 m)]) j0,.bufA 79 3 n1 (fun m=>[.int .u8 (x1 m),.int .u8 (y1 m),.int .u16 (z1 m)]) j1,.bufA 79 3 n2 (fun m=>[.int .u8 (x2 m),.int .u8 (y2 m),.int .u16 (z2 m)]) j2,.buf 5 .u8 out oc2,.one 146 [.slice 7 (.n o) 1 qn cp,.int .i64 u,.val .nilFunc],.ro .u8 bs] (fun v H R=>R=[1,2,3,4,5]∧((∃e,ka6 win most siz told bs k ⟨w,⟨n0,x0,y0,z0⟩,⟨n1,x1,y1,z1⟩,⟨n2,x2,y2,z2⟩,a,b,c,out⟩=.bad e∧v=.agg [.bool false,.int .i64 e]∧∃(u0 u1 u2 u3:Value) (W OUT:List Int) (WC2 N0 N1 N2 J0 J1 J2 OL OC OC2 o' q' c':Nat) (X0 Y0 Z0 X1 Y1 Z1 X2 Y2 Z2:Nat→Int) (A B C U:Int),H=[.one 107 [.val u0,.val u1,.val u2,.val u3,.int .i64 A,.int .i64 B,.int .i64 C,.int .u64 win,.int .i64 most,.int .u64 siz,.bool told,.bool sm,.int .u64 skip,.slice 5 .z 1 OL OC,.int .i64 gone],.buf 5 .u8 W WC2,.bufA 79 3 N0 (fun m=>[.int .u8 (X0 m),.int .u8 (Y0 m),.int .u16 (Z0 m)]) J0,.bufA 79 3 N1 (fun m=>[.int .u8 (X1 m),.int .u8 (Y1 m),.int .u16 (Z1 m)]) J1,.bufA 79 3 N2 (fun m=>[.int .u8 (X2 m),.int .u8 (Y2 m),.int .u16 (Z2 m)]) J2,.buf 5 .u8 OUT OC2,.one 146 [.slice 7 (.n o') 1 q' c',.int .i64 U,.val .nilFunc],.ro .u8 bs]) ∨
   (∃(W OUT:List Int) (WL WC WC2 N0 N1 N2 K0 K1 K2 J0 J1 J2 OL OC OC2 o' q' c' k':Nat) (X0 Y0 Z0 X1 Y1 Z1 X2 Y2 Z2:Nat→Int) (A B C U:Int) (last:Bool),ka6 win most siz told bs k ⟨w,⟨n0,x0,y0,z0⟩,⟨n1,x1,y1,z1⟩,⟨n2,x2,y2,z2⟩,a,b,c,out⟩=.ok last k' ⟨W,⟨N0,X0,Y0,Z0⟩,⟨N1,X1,Y1,Z1⟩,⟨N2,X2,Y2,Z2⟩,A,B,C,OUT⟩∧SA L cap o' k'∧q'=L-k'∧c'=cap-k'∧U=k'∧WL=W.length∧OL=OUT.length∧OL≤OC∧OC≤OC2∧v=.agg [.bool last,.int .i64 0]∧H=[.one 107 [.slice 1 .z 1 WL WC,.slice 2 .z 3 N0 K0,.slice 3 .z 3 N1 K1,.slice 4 .z 3 N2 K2,.int .i64 A,.int .i64 B,.int .i64 C,.int .u64 win,.int .i64 most,.int .u64 siz,.bool told,.bool sm,.int .u64 skip,.slice 5 .z 1 OL OC,.int .i64 gone],.buf 5 .u8 W WC2,.bufA 79 3 N0 (fun m=>[.int .u8 (X0 m),.int .u8 (Y0 m),.int .u16 (Z0 m)]) J0,.bufA 79 3 N1 (fun m=>[.int .u8 (X1 m),.int .u8 (Y1 m),.int .u16 (Z1 m)]) J1,.bufA 79 3 N2 (fun m=>[.int .u8 (X2 m),.int .u8 (Y2 m),.int .u16 (Z2 m)]) J2,.buf 5 .u8 OUT OC2,.one 146 [.slice 7 (.n o') 1 q' c',.int .i64 U,.val .nilFunc],.ro .u8 bs]))):=
 kme _ w out bs wl wc wc2 n0 n1 n2 k0 k1 k2 j0 j1 j2 ol oc oc2 x0 y0 z0 x1 y1 z1 x2 y2 z2 a b c win most siz skip gone told sm L cap o qn cp k u hb8 hL hLc hLm hSA hqn hcp hu hF hwl hol hoc hoc2 hout hmost (fun e h u0 u1 u2 u3 W OUT WC2 N0 N1 N2 J0 J1 J2 OL OC OC2 o' q' c' X0 Y0 Z0 X1 Y1 Z1 X2 Y2 Z2 A B C U=>⟨rfl,.inl ⟨e,h,rfl,u0,u1,u2,u3,W,OUT,WC2,N0,N1,N2,J0,J1,J2,OL,OC,OC2,o',q',c',X0,Y0,Z0,X1,Y1,Z1,X2,Y2,Z2,A,B,C,U,rfl⟩⟩) (fun W OUT WL WC WC2 N0 N1 N2 K0 K1 K2 J0 J1 J2 OL OC OC2 o' q' c' k' X0 Y0 Z0 X1 Y1 Z1 X2 Y2 Z2 A B C U last h1 h2 h3 h4 h5 h6 h7 h8 h9=>⟨rfl,.inr ⟨W,OUT,WL,WC,WC2,N0,N1,N2,K0,K1,K2,J0,J1,J2,OL,OC,OC2,o',q',c',k',X0,Y0,Z0,X1,Y1,Z1,X2,Y2,Z2,A,B,C,U,last,h1,h2,h3,h4,h5,h6,h7,h8,h9,rfl,rfl⟩⟩)
theorem kkD {b:List Int} {bud e:Int} (h:hdP b bud=.err e):e≠0:=by
  unfold hdP at h;repeat' split at h
  all_goals first|(cases h;decide)|cases h
theorem kn7 {b:List Int} {bud:Int} {k:Nat} {win most siz:Int} {told sm:Bool} (hby:∀x∈b,kF x) (h:hdP b bud=.frm k win most siz told sm):0≤most∧most≤131072:=by
  obtain⟨_,_,_,_,_,h6,_,_,_,h9⟩:=kcn h;have:=kdV hby (b.getD 4 0) (by omega);cases h9
  omega
theorem kkE (b:List Int) (cap:Nat) (bud:Int) (hby:∀x∈b,kF x) (hcap:b.length≤cap) (hcm:b.length≤140737488355328) :
    Con Try.prog 43 [.ptr 0 .z 3 0,.int .i64 bud] [.one 146 [.slice 1 (.n 0) 1 b.length cap,.int .i64 0,.val .nilFunc],.ro .u8 b] (fun v H R=>R=[] ∧
      ((∃(e:Int) (o q c:Nat) (u:Int),hdP b bud=.err e∧v=.tup [.val (.pointer none),.int .i64 e]∧H=[.one 146 [.slice 1 (.n o) 1 q c,.int .i64 u,.val .nilFunc],.ro .u8 b]) ∨
       (∃(s:Int) (o q c:Nat),hdP b bud=.skip s∧SA b.length cap o 8∧q=b.length-8∧c=cap-8∧v=.tup [.ptr 2 .z 15 0,.int .i64 0]∧H=[.one 146 [.slice 1 (.n o) 1 q c,.int .i64 8,.val .nilFunc],.ro .u8 b,.one 107 [.val (.slice none 0 0),.val (.slice none 0 0),.val (.slice none 0 0),.val (.slice none 0 0),.int .i64 0,.int .i64 0,.int .i64 0,.int .u64 0,.int .i64 0,.int .u64 0,.bool false,.bool false,.int .u64 s,.val (.slice none 0 0),.int .i64 0]]) ∨
       (∃(k:Nat) (win most siz:Int) (told sm:Bool) (o q c:Nat) (ki:Int),hdP b bud=.frm k win most siz told sm∧SA b.length cap o k∧q=b.length-k∧c=cap-k∧ki=k∧v=.tup [.ptr 2 .z 15 0,.int .i64 0]∧H=[.one 146 [.slice 1 (.n o) 1 q c,.int .i64 ki,.val .nilFunc],.ro .u8 b,.one 107 [.val (.slice none 0 0),.val (.slice none 0 0),.val (.slice none 0 0),.val (.slice none 0 0),.int .i64 1,.int .i64 4,.int .i64 8,.int .u64 win,.int .i64 most,.int .u64 siz,.bool told,.bool sm,.int .u64 0,.val (.slice none 0 0),.int .i64 0]])))
    :=knA _ b cap bud hby hcap hcm (fun e h o q c u=>⟨rfl,.inl ⟨e,o,q,c,u,h,rfl,rfl⟩⟩) (fun s h o q c h1 h2 h3=>⟨rfl,.inr (.inl ⟨s,o,q,c,h,h1,h2,h3,rfl,rfl⟩)⟩)
      (fun k win most siz told sm h o q c ki h1 h2 h3 h4=>⟨rfl,.inr (.inr ⟨k,win,most,siz,told,sm,o,q,c,ki,h,h1,h2,h3,h4,rfl,rfl⟩)⟩)
theorem kpE (bs : List Int) (bud:Int) (cap L:Nat) (hb8:∀x∈bs,kF x) (hL:L=bs.length) (hLc:L≤cap) (hLm:L≤140737488355328) :
    Con Try.prog 39 [.ptr 0 .z 3 0,.int .i64 bud,.fn 40 [.ptr 2 .z 1 0],.fn 41 []] [.one 146 [.slice 1 (.n 0) 1 L cap,.int .i64 0,.val .nilFunc],.ro .u8 bs,.one 25 [.slice 3 .z 1 0 0],.buf 5 .u8 [] 0] (fun v H R=>R=[3]∧∃(out:List Int) (n e U:Int) (o q c ml mc mc2:Nat),MemR bs bud out n e∧v=.int .i64 e∧(e=0→U=n)∧ml=out.length∧ml≤mc∧H=[.one 146 [.slice 1 (.n o) 1 q c,.int .i64 U,.val .nilFunc],.ro .u8 bs,.one 25 [.slice 3 .z 1 ml mc],.buf 5 .u8 out mc2]):=by
  have hhd:=kkE bs cap bud hb8 (by omega) (by omega);rw[←hL] at hhd;have hblk:=@kn5;have hold:=kn4;have hbad:=fun o q c u n=>kax bs o q c u n
  have hok:=fun o q c n o2 q2 c2 u ni u2=>kbt bs o q c n o2 q2 c2 u ni u2
  have hput:=@kn3;have hfr:=@kmd;have hxx:=@kpv;have hnum:=fun k n c (h:k+n≤bs.length) (h8:n≤8)=>kbu (sg bs k n) c (qr hb8 k n) (by rw[kP h];exact h8)
  have f41:=fn41;have f73:=ksa;have f102:=kq5;refine kf (kw 4 (by simp) (ju [3] (kg (klv kj fw39 fn41.go d41 ?_))))
  intro vb vc vw _ vofN _ _ _ _ _ _ _ _ _ _ _ _ _ _ vnotB _ hw qb qc qw _ qofN _ _ _ _ _ _ _ _ _ _ _ _ _ _ qnotB _;have hm:=kj;generalize Try.prog=P at *;have hnt:vnotB true=false:=by rw[qnotB];rfl
  have hnf:vnotB false=true:=by rw[qnotB];rfl
  have h00:vc .neq 0 0=false:=by rw[qc];rfl
  cbv;refine ka (ρ:=[(0,.z),(1,.z)]) hhd ⟨by rfl,by rfl,by rfl,by cbv;(repeat' first|(refine And.intro ?_ ?_)|exact trivial|exact⟨Nat.le_refl _⟩|exact kb _|exact fun _=>rfl|(simp only[renL3];done)|(show SB.roA _ _ _=SB.roA _ _ _;rfl)|exact funext fun _=>rfl)⟩ ?_
  rintro v H R js ⟨rfl,⟨e,o,q,c,u,hh,rfl,rfl⟩|⟨s,o,q,c,hh,hSA,hq,hc,rfl,rfl⟩|⟨k,win,most,siz,told,sm,o,q,c,ki,hh,hSA,hq,hc,hki,rfl,rfl⟩⟩
  · have he:e≠0:=kkD hh
    have hne:vc .neq e 0=true:=by rw[qc,kz];exact he
    cbv;rw[hne];cbv;exact⟨[],0,e,u,o,q,c,0,0,0,.err hh,rfl,fun h=>absurd h he,rfl,Nat.le_refl _,rfl⟩
  · have hq:q=L-8:=hq
    have hc:c=cap-8:=hc;refine Exists.elim (kX (s-1)) (fun s1 hs1=>?_)
    have hsp:=kb4 hh;have hsr:=kY (qr hb8 4 4) 4;have hs0:0≤s1∧s1<4294967296:=by rw[hs1,hsp.2.2.2];rw[show(2:Int)^(8*4)=4294967296 by decide] at hsr;omega
    have hsg:vc .gtr s 0=true:=by rw[qc,gtr_true];omega
    have es1:vb .sub .u64 s 1=s1:=by rw[qb,hs1];show IntKind.u64.wrap (s-1)=s-1;exact wrap_u64 (by omega) (by omega)
    have ew1:vw .i64 s1=s1:=by rw[qw];exact wrap_i64 (by omega) (by omega)
    have hL8:8≤L:=by omega
    by_cases hn:L<8+s1.toNat
    · have hb:=hbad o q c 8 s1 (by((try simp only[nc]);omega))
      have hM:MemR bs bud [] 0 10:=.skipb hh (by rw[←hL];omega);cbv;rw[h00];cbv;rw[hsg];cbv;rw[es1,ew1];refine ka (ρ:=[(0,.z),(1,.z)]) hb ⟨by rfl,by rfl,by rfl,by cbv;(repeat' first|(refine And.intro ?_ ?_)|exact trivial|exact⟨Nat.le_refl _⟩|exact kb _|exact fun _=>rfl|(simp only[renL3];done)|(show SB.roA _ _ _=SB.roA _ _ _;rfl)|exact funext fun _=>rfl)⟩ ?_
      rintro v H R js2 ⟨rfl,rfl,rfl⟩;cbv;rw[hnf];cbv;exact⟨[],0,10,8,o,q,c,0,0,0,hM,rfl,(fun h=>absurd h (by decide)),rfl,Nat.le_refl _,rfl⟩
    · refine Exists.elim (k9 s1.toNat) (fun n hn'=>?_)
      have hk:=hok o q c n (if c=n then o else o+n) (q-n) (c-n) 8 s1 (8+s1) (by((try simp only[nc]);omega)) (by((try simp only[nc]);omega)) (by have:=hSA.Lc;((try simp only[nc]);omega)) (by((try simp only[nc]);omega)) rfl rfl rfl rfl;have hM:MemR bs bud [] (8+s1) 0:=by rw[hs1];exact .skip hh (by rw[←hL];omega)
      refine Exists.elim (k9 (if c=n then o else o+n)) (fun o2 ho2=>?_)
      refine Exists.elim (k9 (q-n)) (fun q2 hq2=>?_)
      refine Exists.elim (k9 (c-n)) (fun c2 hc2=>?_)
      refine Exists.elim (kX (8+s1)) (fun u2 hu2=>?_)
      rw[←ho2,←hq2,←hc2,←hu2] at hk;rw[←hu2] at hM;cbv;rw[h00];cbv;rw[hsg];cbv;rw[es1,ew1];refine ka (ρ:=[(0,.z),(1,.z)]) hk ⟨by rfl,by rfl,by rfl,by cbv;(repeat' first|(refine And.intro ?_ ?_)|exact trivial|exact⟨Nat.le_refl _⟩|exact kb _|exact fun _=>rfl|(simp only[renL3];done)|(show SB.roA _ _ _=SB.roA _ _ _;rfl)|exact funext fun _=>rfl)⟩ ?_
      rintro v H R js2 ⟨rfl,rfl,rfl⟩;cbv;rw[hnt];cbv;exact⟨[],u2,0,u2,o2,q2,c2,0,0,0,hM,rfl,(fun _=>rfl),rfl,Nat.le_refl _,rfl⟩
  · have hq : q = L - k:=hq
    have hc:c=cap-k:=hc;have hki:ki=(k:Int):=hki;have hs0:vc .gtr 0 0=false:=by rw[qc];rfl
    cbv;rw[h00];cbv;rw[hs0];cbv;refine CallX.cv f41.go (Cv.nilB 6 0 5 .u8 (by rfl) (by cbv;(repeat' first|(refine And.intro ?_ ?_)|exact trivial|exact⟨Nat.le_refl _⟩|exact kb _|exact fun _=>rfl|(simp only[renL3];done)|(show SB.roA _ _ _=SB.roA _ _ _;rfl)|exact funext fun _=>rfl)) (Cv.nilBA 6 1 3 79 (fun _=>[.int .u8 0,.int .u8 0,.int .u16 0]) (by rfl) (by cbv;(repeat' first|(refine And.intro ?_ ?_)|exact trivial|exact⟨Nat.le_refl _⟩|exact kb _|exact fun _=>rfl|(simp only[renL3];done)|(show SB.roA _ _ _=SB.roA _ _ _;rfl)|exact funext fun _=>rfl)) (Cv.nilBA 6 2 3 79 (fun _=>[.int .u8 0,.int .u8 0,.int .u16 0]) (by rfl) (by cbv;(repeat' first|(refine And.intro ?_ ?_)|exact trivial|exact⟨Nat.le_refl _⟩|exact kb _|exact fun _=>rfl|(simp only[renL3];done)|(show SB.roA _ _ _=SB.roA _ _ _;rfl)|exact funext fun _=>rfl)) (Cv.nilBA 6 3 3 79 (fun _=>[.int .u8 0,.int .u8 0,.int .u16 0]) (by rfl) (by cbv;(repeat' first|(refine And.intro ?_ ?_)|exact trivial|exact⟨Nat.le_refl _⟩|exact kb _|exact fun _=>rfl|(simp only[renL3];done)|(show SB.roA _ _ _=SB.roA _ _ _;rfl)|exact funext fun _=>rfl)) (Cv.nilB 6 13 5 .u8 (by rfl) (by cbv;(repeat' first|(refine And.intro ?_ ?_)|exact trivial|exact⟨Nat.le_refl _⟩|exact kb _|exact fun _=>rfl|(simp only[renL3];done)|(show SB.roA _ _ _=SB.roA _ _ _;rfl)|exact funext fun _=>rfl)) (Cv.here ?_)))))) (by rfl)
    refine ka (ρ:=[]) (hold .i64 _) ⟨by rfl,by rfl,by rfl,by cbv;(repeat' first|(refine And.intro ?_ ?_)|exact trivial|exact⟨Nat.le_refl _⟩|exact kb _|exact fun _=>rfl|(simp only[renL3];done)|(show SB.roA _ _ _=SB.roA _ _ _;rfl)|exact funext fun _=>rfl)⟩ ?_
    rintro v H R js2 ⟨rfl,rfl,rfl⟩;cbv;(repeat refine And.intro (fun _=>rfl) ?_);intro D;cbv;refine kE hw hm f73 (by rfl) ?_
    cbv;(repeat refine And.intro (fun _=>rfl) ?_);intro js3;cbv;refine kbf (by rfl) (by rfl) (by cbv;(repeat' first|(refine And.intro ?_ ?_)|exact trivial|exact⟨Nat.le_refl _⟩|exact kb _|exact fun _=>rfl|(simp only[renL3];done)|(show SB.roA _ _ _=SB.roA _ _ _;rfl)|exact funext fun _=>rfl)) (by cbv;(repeat' first|(refine And.intro ?_ ?_)|exact trivial|exact⟨Nat.le_refl _⟩|exact kb _|exact fun _=>rfl|(simp only[renL3];done)|(show SB.roA _ _ _=SB.roA _ _ _;rfl)|exact funext fun _=>rfl)) (by rfl) ?_
    refine kE hw hm f102 (by rfl) ?_
    cbv;have hmost:0≤most∧most≤131072:=kn7 hb8 hh;have hk5:=kpX hh;refine kG (α:=Nat×Nat×Nat×Nat×Int×List Int×List Int×Nat×Nat×Nat×Nat×Nat×Nat×Nat×Nat×Nat×Nat×Nat×Nat×Nat×Nat×Nat×(Nat→Int)×(Nat→Int)×(Nat→Int)×(Nat→Int)×(Nat→Int)×(Nat→Int)×(Nat→Int)×(Nat→Int)×(Nat→Int)×Int×Int×Int×Int×Nat×Nat) (List.range' 4 17) [3,12,11,10,9,8] (fun(kk,oo,qq,cc,uu,W,OUT,WL,WC,WC2,N0,N1,N2,K0,K1,K2,J0,J1,J2,OL,OC,OC2,X0,Y0,Z0,X1,Y1,Z1,X2,Y2,Z2,A,B,C,gone,mc,mc2)=>[]) (fun(kk,oo,qq,cc,uu,W,OUT,WL,WC,WC2,N0,N1,N2,K0,K1,K2,J0,J1,J2,OL,OC,OC2,X0,Y0,Z0,X1,Y1,Z1,X2,Y2,Z2,A,B,C,gone,mc,mc2)=>[(0,.one 146 [.slice 1 (.n oo) 1 qq cc,.int .i64 uu,.val .nilFunc]),(2,.one 25 [.slice 3 .z 1 OL mc]),(3,.buf 5 .u8 OUT mc2),(6,.one 107 [.slice 8 .z 1 WL WC,.slice 9 .z 3 N0 K0,.slice 10 .z 3 N1 K1,.slice 11 .z 3 N2 K2,.int .i64 A,.int .i64 B,.int .i64 C,.int .u64 win,.int .i64 most,.int .u64 siz,.bool told,.bool sm,.int .u64 0,.slice 12 .z 1 OL OC,.int .i64 gone]),(8,.buf 5 .u8 W WC2),(9,.bufA 79 3 N0 (fun m=>[.int .u8 (X0 m),.int .u8 (Y0 m),.int .u16 (Z0 m)]) J0),(10,.bufA 79 3 N1 (fun m=>[.int .u8 (X1 m),.int .u8 (Y1 m),.int .u16 (Z1 m)]) J1),(11,.bufA 79 3 N2 (fun m=>[.int .u8 (X2 m),.int .u8 (Y2 m),.int .u16 (Z2 m)]) J2),(12,.buf 5 .u8 OUT OC2)])
      (fun(kk,oo,qq,cc,uu,W,OUT,WL,WC,WC2,N0,N1,N2,K0,K1,K2,J0,J1,J2,OL,OC,OC2,X0,Y0,Z0,X1,Y1,Z1,X2,Y2,Z2,A,B,C,gone,mc,mc2)=>SA L cap oo kk∧qq=L-kk∧cc=cap-kk∧uu=kk∧kcp ⟨W,⟨N0,X0,Y0,Z0⟩,⟨N1,X1,Y1,Z1⟩,⟨N2,X2,Y2,Z2⟩,A,B,C,OUT⟩∧WL=W.length∧OL=OUT.length∧OL≤OC∧OC≤OC2∧OL≤16777216∧OL≤mc∧mc≤mc2∧gone=OL∧kk≤L∧∀e k2 F2,RunB win most siz told bs kk ⟨W,⟨N0,X0,Y0,Z0⟩,⟨N1,X1,Y1,Z1⟩,⟨N2,X2,Y2,Z2⟩,A,B,C,OUT⟩ e k2 F2→RunB win most siz told bs k F0 e k2 F2) (fun(kk,oo,qq,cc,uu,W,OUT,WL,WC,WC2,N0,N1,N2,K0,K1,K2,J0,J1,J2,OL,OC,OC2,X0,Y0,Z0,X1,Y1,Z1,X2,Y2,Z2,A,B,C,gone,mc,mc2)=>L-kk) hw hm ?_ ?_
    · refine Cv.genAt [] [] (Cv.fold (List.range' 4 17) 17 [3,12,11,10,9,8] (by exact Nat.le_refl _) (by exact Nat.le_of_ble_eq_true rfl) (by rfl) (by cbv) ?_)
      intro js4;exact⟨(k,o,q,c,ki,[],[],0,0,0,0,0,0,0,0,0,0,0,0,0,0,0,(fun _=>0),(fun _=>0),(fun _=>0),(fun _=>0),(fun _=>0),(fun _=>0),(fun _=>0),(fun _=>0),(fun _=>0),1,4,8,0,0,0),⟨hSA,hq,hc,hki,kiV,rfl,rfl,Nat.le_refl _,Nat.le_refl _,Nat.zero_le _,Nat.le_refl _,Nat.le_refl _,rfl,by omega,fun _ _ _ h=>h⟩,js4,rfl⟩
    · rintro ⟨kk, oo,qq,cc,uu,W,OUT,WL,WC,WC2,N0,N1,N2,K0,K1,K2,J0,J1,J2,OL,OC,OC2,X0,Y0,Z0,X1,Y1,Z1,X2,Y2,Z2,A,B,C,gone,mc,mc2⟩ js4 ⟨hSA2,hq2,hc2,hu2,hF,hWL,hOL,hOC,hOC2,hOLm,hmc,hmc2,hgone,hkL,hrun⟩
      have hb:=hblk W OUT bs WL WC WC2 N0 N1 N2 K0 K1 K2 J0 J1 J2 OL OC OC2 X0 Y0 Z0 X1 Y1 Z1 X2 Y2 Z2 A B C win most siz 0 gone told sm L cap oo qq cc kk uu hb8 hL hLc hLm hSA2 hq2 hc2 hu2 hF hWL hOL hOC hOC2 hOLm hmost;cbv;refine ka (ρ:=[(6,.z),(8,.z),(9,.z),(10,.z),(11,.z),(12,.z),(0,.z),(1,.z)]) hb ⟨by rfl,by rfl,by rfl,by cbv;(repeat' first|(refine And.intro ?_ ?_)|exact trivial|exact kb _|exact fun _=>rfl|rfl)⟩ ?_
      rintro v H R js5 ⟨rfl,⟨e,hbp,rfl,u0,u1,u2,u3,W',OUT',WC2',N0',N1',N2',J0',J1',J2',OL',OC',OC2',o',q',c',X0',Y0',Z0',X1',Y1',Z1',X2',Y2',Z2',A',B',C',U,rfl⟩|⟨W',OUT',WL',WC',WC2',N0',N1',N2',K0',K1',K2',J0',J1',J2',OL',OC',OC2',o',q',c',k',X0',Y0',Z0',X1',Y1',Z1',X2',Y2',Z2',A',B',C',U,last,hbp,hSA3,hq3,hc3,hU3,hW3,hO3,hO4,hO5,rfl,rfl⟩⟩
      · have he:e≠0:=by rcases kdo hbp with rfl|rfl|rfl<;>decide
        have hne:vc .neq e 0=true:=by rw[qc,kz];exact he
        cbv;(repeat refine And.intro (fun _=>rfl) ?_);simp only[renL3];refine kbg hw hm (by rfl) ?_
        cbv;(repeat refine And.intro (fun _=>rfl) ?_);rw[hne];cbv;(repeat refine And.intro (fun _=>rfl) ?_);intro js6;cbv;rw[hnf];cbv;(repeat refine And.intro (fun _=>rfl) ?_);intro js7;cbv;(repeat refine And.intro (fun _=>rfl) ?_);exact⟨OUT,0,e,U,o',q',c',OL,mc,mc2,.bad hh (hrun _ _ _ (.bad hbp)) he,rfl,fun h=>absurd h he,hOL,hmc,rfl⟩
      · obtain⟨hF2,⟨xo,hxo⟩,hOL3,hkk,hkL2⟩:=kaL hb8 hF hbp
        have hxo:OUT'=OUT++xo:=hxo;have hOL4:OL'≤16777216:=by rw[hO3];exact hOL3
        have hOLx:OL'=OL+xo.length:=by rw[hO3,hxo,List.length_append,←hOL]
        refine Exists.elim (k9 (OL'-OL)) (fun xk hxk=>?_)
        refine Exists.elim (k9 (if OL'=OL then 0 else 0+OL)) (fun o5 ho5=>?_)
        refine Exists.elim (kX (OL':Int)) (fun OLI hOLI=>?_)
        have hcat:OUT++(OUT'.drop o5).take xk=OUT':=by
          rw[ho5];by_cases hz:OL'=OL
          · have e1:xk=0:=by omega
            have e2:xo=[]:=List.eq_nil_of_length_eq_zero (by omega);rw[e1,List.take_zero,hxo,e2]
          · rw[if_neg hz,Nat.zero_add,hxo,hOL,List.drop_left,List.take_of_length_le (by omega)]
        have hfr2:=hfr W' OUT' WL' WC' WC2' N0' N1' N2' K0' K1' K2' J0' J1' J2' OL' OC' OC2' X0' Y0' Z0' X1' Y1' Z1' X2' Y2' Z2' A' B' C' win most siz 0 gone told sm OL xk o5 OLI hgone (by omega) hO4 hOLI hxk ho5;have hpt2:=hput OUT OUT' OL mc mc2 xk xk o5 hOL hmc hmc2 (show o5+xk≤OUT'.length by rw[←hO3,ho5];split<;>omega) (by omega) (by omega);have hrun2:∀e k2 F2,RunB win most siz told bs k' ⟨W',⟨N0',X0',Y0',Z0'⟩,⟨N1',X1',Y1',Z1'⟩,⟨N2',X2',Y2',Z2'⟩,A',B',C',OUT'⟩ e k2 F2→last=false→RunB win most siz told bs k F0 e k2 F2:=fun e k2 F2 h hl=>hrun _ _ _ (.next (by rw[←hl];exact hbp) h)
        have hlast:last=true→RunB win most siz told bs k F0 0 k' ⟨W',⟨N0',X0',Y0',Z0'⟩,⟨N1',X1',Y1',Z1'⟩,⟨N2',X2',Y2',Z2'⟩,A',B',C',OUT'⟩:=fun hl=>hrun _ _ _ (.last (by rw[←hl];exact hbp))
        have hkL2':k'≤L:=by rw[hL];exact hkL2
        have hmu:L-k'<L-kk:=by omega
        have hnn:OL+xk=OL':=by omega
        cbv;(repeat refine And.intro (fun _=>rfl) ?_);simp only[renL3];refine kbg hw hm (by rfl) ?_
        cbv;(repeat refine And.intro (fun _=>rfl) ?_);rw[h00];cbv;refine ka (ρ:=[(6,.z),(8,.z),(9,.z),(10,.z),(11,.z),(12,.z)]) hfr2 ⟨by rfl,by rfl,by rfl,by cbv;(repeat' first|(refine And.intro ?_ ?_)|exact trivial|exact kb _|exact fun _=>rfl|rfl)⟩ ?_
        rintro v H R js6 ⟨rfl,rfl,rfl⟩;cbv;(repeat refine And.intro (fun _=>rfl) ?_);simp only[renL3];refine ka (ρ:=[(2,.z),(3,.z),(12,.z)]) hpt2 ⟨by rfl,by rfl,by rfl,by cbv;(repeat' first|(refine And.intro ?_ ?_)|exact trivial|exact kb _|exact fun _=>rfl|rfl)⟩ ?_
        rintro v H R js7 ⟨rfl,rfl,nn,c7,c8,hn7,hc7,hc8,rfl⟩;obtain rfl:nn=OL':=hn7.trans hnn;rw[hcat];cbv;(repeat refine And.intro (fun _=>rfl) ?_);rw[hnt];cbv;(repeat refine And.intro (fun _=>rfl) ?_);intro js8;cbv;rw[hnt];cbv;cases last
        · cbv
          rw[h00];cbv;refine Cv.fold (List.range' 4 17) 17 [3,12,11,10,9,8] (by exact Nat.le_refl _) (by exact Nat.le_of_ble_eq_true rfl) (by rfl) (by cbv) ?_
          intro js9;exact⟨(k',o',q',c',U,W',OUT',WL',WC',WC2',N0',N1',N2',K0',K1',K2',J0',J1',J2',nn,OC',OC2',X0',Y0',Z0',X1',Y1',Z1',X2',Y2',Z2',A',B',C',OLI,c7,c8),⟨⟨hSA3,hq3,hc3,hU3,hF2,hW3,hO3,hO4,hO5,hOL4,hc7,hc8,hOLI,hkL2',fun e k2 F2 h=>hrun2 e k2 F2 h rfl⟩,hmu⟩,js9,rfl⟩
        · have hR :=hlast rfl
          have hOL4:nn≤16777216:=hOL4;have hkL2':k'≤L:=hkL2';have hU3:U=(k':Int):=hU3;have hO3:nn=OUT'.length:=hO3;have hq3:q'=L-k':=hq3;have hc3:c'=cap-k':=hc3;have ho0:vofN nn=(nn:Int):=by rw[qofN]
          refine Exists.elim (kX (nn:Int)) (fun NNI hNNI=>?_)
          rw[←hNNI] at ho0;have hwn:vw .u64 NNI=NNI:=by rw[qw];exact wrap_u64 (by omega) (by omega)
          have p1:L<k'+4→(q':Int)<4:=fun h=>by omega
          have p2:¬L<k'+4→4≤q':=fun h=>by omega
          have p3:0≤U∧U+4≤9223372036854775807:=by omega
          have p4:q'≤c':=by omega
          have p5:OUT'.length≤140737488355328:=by omega
          have hend:¬(told=true∧(OUT'.length:Int)≠siz)→kbB bs siz told sm k' OUT'=(if sm=false then((k':Int),0) else if bs.length<k'+4 then(0,10) else if kV (sg bs k' 4) 4≠bV .and .u64 (kdZ OUT') 4294967295 then(0,11) else((k':Int)+4,0)):=fun h=>if_neg h
          cbv;(repeat refine And.intro (fun _=>rfl) ?_);intro js9;cbv;(repeat refine And.intro (fun _=>rfl) ?_);cases told
          · have hend:=hend (by simp)
            cbv;(repeat refine And.intro (fun _=>rfl) ?_);cases sm
            · cbv
              rw[hnf];cbv;(repeat refine And.intro (fun _=>rfl) ?_);exact⟨OUT',U,0,U,o',q',c',nn,c7,c8,.fin hh hR (by rw[hend,hU3];rfl),rfl,fun _=>rfl,hO3,hc7,rfl⟩
            · cbv
              rw[hnt];cbv;have hend:kbB bs siz false true k' OUT'=(if bs.length<k'+4 then(0,10) else if kV (sg bs k' 4) 4≠bV .and .u64 (kdZ OUT') 4294967295 then(0,11) else((k':Int)+4,0)):=by rw[hend];rfl
              by_cases h4:L<k'+4
              · have hb:=hbad o' q' c' U 4 (p1 h4)
                have hend:kbB bs siz false true k' OUT'=(0,10):=by rw[hend,if_pos (by rw[←hL];exact h4)]
                refine ka (ρ:=[(0,.z),(1,.z)]) hb ⟨by rfl,by rfl,by rfl,by cbv;(repeat' first|(refine And.intro ?_ ?_)|exact trivial|exact kb _|exact fun _=>rfl|rfl)⟩ ?_
                rintro v H R jsa ⟨rfl,rfl,rfl⟩;cbv;(repeat refine And.intro (fun _=>rfl) ?_);rw[hnf];cbv;(repeat refine And.intro (fun _=>rfl) ?_);exact⟨OUT',0,10,U,o',q',c',nn,c7,c8,.fin hh hR hend,rfl,fun h=>absurd h (by decide),hO3,hc7,rfl⟩
              · refine Exists.elim (k9 (if c'=4 then o' else o'+4)) (fun o9 ho9=>?_)
                refine Exists.elim (k9 (q'-4)) (fun q9 hq9=>?_)
                refine Exists.elim (k9 (c'-4)) (fun c9 hc9=>?_)
                refine Exists.elim (kX (U+4)) (fun u9 hu9=>?_)
                have hb:=hok o' q' c' 4 o9 q9 c9 U 4 u9 rfl (p2 h4) p4 (by rw[hu9];exact p3) ho9 hq9 hc9 hu9;have hn4:=hnum k' 4 4 (by omega) (by omega);rw[kP (by omega)] at hn4;have hv4:=hSA3.view hL (n:=4) (by omega);refine Exists.elim (kb3 (sg bs k' 4)) (fun S4 hS4=>?_)
                rw[←hS4] at hn4 hv4;refine Exists.elim (kX (kV S4 4)) (fun N4 hN4=>?_)
                rw[←hN4] at hn4;have hx:=hxx OUT' OC' p5;rw[←hO3] at hx;refine Exists.elim (kX (kdZ OUT')) (fun XX hXX=>?_)
                rw[←hXX] at hx;refine Exists.elim (kX (bV .and .u64 XX 4294967295)) (fun X4 hX4=>?_)
                have ex4:vb .and .u64 XX 4294967295=X4:=by rw[qb];exact hX4.symm
                rw[if_neg (by rw[←hL];exact h4),←hS4,←hN4,←hXX,←hX4] at hend;refine ka (ρ:=[(0,.z),(1,.z)]) hb ⟨by rfl,by rfl,by rfl,by cbv;(repeat' first|(refine And.intro ?_ ?_)|exact trivial|exact kb _|exact fun _=>rfl|rfl)⟩ ?_
                rintro v H R jsa ⟨rfl,rfl,rfl⟩;cbv;(repeat refine And.intro (fun _=>rfl) ?_);rw[hnt];cbv;(repeat refine And.intro (fun _=>rfl) ?_);refine ka (ρ:=[(1,.n o')]) hn4 ⟨by rfl,by rfl,by rfl,by cbv;(repeat' first|(refine And.intro ?_ ?_)|exact trivial|exact hv4|exact fun _=>rfl|rfl)⟩ ?_
                rintro v H R jsb ⟨rfl,rfl,rfl⟩;cbv;(repeat refine And.intro (fun _=>rfl) ?_);refine ka (ρ:=[(12,.z)]) hx ⟨by rfl,by rfl,by rfl,by cbv;(repeat' first|(refine And.intro ?_ ?_)|exact trivial|exact kb _|exact fun _=>rfl|rfl)⟩ ?_
                rintro v H R jsc ⟨rfl,rfl,rfl⟩;cbv;(repeat refine And.intro (fun _=>rfl) ?_);rw[ex4];by_cases hne:N4=X4
                · have hend:kbB bs siz false true k' OUT'=((k':Int)+4,0):=by rw[hend,if_neg (fun h=>h hne)]
                  have hq4:vc .neq N4 X4=false:=by rw[qc,kQ];exact fun h=>h hne
                  rw[hq4];cbv;(repeat refine And.intro (fun _=>rfl) ?_);exact⟨OUT',u9,0,u9,o9,q9,c9,nn,c7,c8,.fin hh hR (by rw[hend,hu9,hU3]),rfl,fun _=>rfl,hO3,hc7,rfl⟩
                · have hend:kbB bs siz false true k' OUT'=(0,11):=by rw[hend,if_pos hne]
                  have hq4:vc .neq N4 X4=true:=by rw[qc,kz];exact hne
                  rw[hq4];cbv;(repeat refine And.intro (fun _=>rfl) ?_);exact⟨OUT',0,11,u9,o9,q9,c9,nn,c7,c8,.fin hh hR hend,rfl,fun h=>absurd h (by decide),hO3,hc7,rfl⟩

          · cbv
            (repeat refine And.intro (fun _=>rfl) ?_);rw[ho0,hwn];by_cases hs:(nn:Int)=siz
            · have hend:=hend (by rw[←hO3];exact fun h=>h.2 hs)
              have hsz:vc .neq NNI siz=false:=by rw[qc,kQ];exact fun h=>h (hNNI.trans hs)
              rw[hsz];cbv;(repeat refine And.intro (fun _=>rfl) ?_);cases sm
              · cbv
                rw[hnf];cbv;(repeat refine And.intro (fun _=>rfl) ?_);exact⟨OUT',U,0,U,o',q',c',nn,c7,c8,.fin hh hR (by rw[hend,hU3];rfl),rfl,fun _=>rfl,hO3,hc7,rfl⟩
              · cbv
                rw[hnt];cbv;have hend:kbB bs siz true true k' OUT'=(if bs.length<k'+4 then(0,10) else if kV (sg bs k' 4) 4≠bV .and .u64 (kdZ OUT') 4294967295 then(0,11) else((k':Int)+4,0)):=by rw[hend];rfl
                by_cases h4:L<k'+4
                · have hb:=hbad o' q' c' U 4 (p1 h4)
                  have hend:kbB bs siz true true k' OUT'=(0,10):=by rw[hend,if_pos (by rw[←hL];exact h4)]
                  refine ka (ρ:=[(0,.z),(1,.z)]) hb ⟨by rfl,by rfl,by rfl,by cbv;(repeat' first|(refine And.intro ?_ ?_)|exact trivial|exact kb _|exact fun _=>rfl|rfl)⟩ ?_
                  rintro v H R jsa ⟨rfl,rfl,rfl⟩;cbv;(repeat refine And.intro (fun _=>rfl) ?_);rw[hnf];cbv;(repeat refine And.intro (fun _=>rfl) ?_);exact⟨OUT',0,10,U,o',q',c',nn,c7,c8,.fin hh hR hend,rfl,fun h=>absurd h (by decide),hO3,hc7,rfl⟩
                · refine Exists.elim (k9 (if c'=4 then o' else o'+4)) (fun o9 ho9=>?_)
                  refine Exists.elim (k9 (q'-4)) (fun q9 hq9=>?_)
                  refine Exists.elim (k9 (c'-4)) (fun c9 hc9=>?_)
                  refine Exists.elim (kX (U+4)) (fun u9 hu9=>?_)
                  have hb:=hok o' q' c' 4 o9 q9 c9 U 4 u9 rfl (p2 h4) p4 (by rw[hu9];exact p3) ho9 hq9 hc9 hu9;have hn4:=hnum k' 4 4 (by omega) (by omega);rw[kP (by omega)] at hn4;have hv4:=hSA3.view hL (n:=4) (by omega);refine Exists.elim (kb3 (sg bs k' 4)) (fun S4 hS4=>?_)
                  rw[←hS4] at hn4 hv4;refine Exists.elim (kX (kV S4 4)) (fun N4 hN4=>?_)
                  rw[←hN4] at hn4;have hx:=hxx OUT' OC' p5;rw[←hO3] at hx;refine Exists.elim (kX (kdZ OUT')) (fun XX hXX=>?_)
                  rw[←hXX] at hx;refine Exists.elim (kX (bV .and .u64 XX 4294967295)) (fun X4 hX4=>?_)
                  have ex4:vb .and .u64 XX 4294967295=X4:=by rw[qb];exact hX4.symm
                  rw[if_neg (by rw[←hL];exact h4),←hS4,←hN4,←hXX,←hX4] at hend;refine ka (ρ:=[(0,.z),(1,.z)]) hb ⟨by rfl,by rfl,by rfl,by cbv;(repeat' first|(refine And.intro ?_ ?_)|exact trivial|exact kb _|exact fun _=>rfl|rfl)⟩ ?_
                  rintro v H R jsa ⟨rfl,rfl,rfl⟩;cbv;(repeat refine And.intro (fun _=>rfl) ?_);rw[hnt];cbv;(repeat refine And.intro (fun _=>rfl) ?_);refine ka (ρ:=[(1,.n o')]) hn4 ⟨by rfl,by rfl,by rfl,by cbv;(repeat' first|(refine And.intro ?_ ?_)|exact trivial|exact hv4|exact fun _=>rfl|rfl)⟩ ?_
                  rintro v H R jsb ⟨rfl,rfl,rfl⟩;cbv;(repeat refine And.intro (fun _=>rfl) ?_);refine ka (ρ:=[(12,.z)]) hx ⟨by rfl,by rfl,by rfl,by cbv;(repeat' first|(refine And.intro ?_ ?_)|exact trivial|exact kb _|exact fun _=>rfl|rfl)⟩ ?_
                  rintro v H R jsc ⟨rfl,rfl,rfl⟩;cbv;(repeat refine And.intro (fun _=>rfl) ?_);rw[ex4];by_cases hne:N4=X4
                  · have hend:kbB bs siz true true k' OUT'=((k':Int)+4,0):=by rw[hend,if_neg (fun h=>h hne)]
                    have hq4:vc .neq N4 X4=false:=by rw[qc,kQ];exact fun h=>h hne
                    rw[hq4];cbv;(repeat refine And.intro (fun _=>rfl) ?_);exact⟨OUT',u9,0,u9,o9,q9,c9,nn,c7,c8,.fin hh hR (by rw[hend,hu9,hU3]),rfl,fun _=>rfl,hO3,hc7,rfl⟩
                  · have hend:kbB bs siz true true k' OUT'=(0,11):=by rw[hend,if_pos hne]
                    have hq4:vc .neq N4 X4=true:=by rw[qc,kz];exact hne
                    rw[hq4];cbv;(repeat refine And.intro (fun _=>rfl) ?_);exact⟨OUT',0,11,u9,o9,q9,c9,nn,c7,c8,.fin hh hR hend,rfl,fun h=>absurd h (by decide),hO3,hc7,rfl⟩

            · have hsz:vc .neq NNI siz=true:=by rw[qc,kz];exact fun h=>hs (hNNI.symm.trans h)
              have hend:kbB bs siz true sm k' OUT'=(0,11):=if_pos ⟨rfl,by rw[←hO3];exact hs⟩;rw[hsz];cbv;(repeat refine And.intro (fun _=>rfl) ?_);exact⟨OUT',0,11,U,o',q',c',nn,c7,c8,.fin hh hR hend,rfl,fun h=>absurd h (by decide),hO3,hc7,rfl⟩
theorem kpY {P:Program} (b L cap:Nat):∀(σ:Names) (p:Option (Nat×Nat)) (w:World),holds P σ p w (.one 146 [.slice b .z 1 L cap,.int .i64 0,.val .nilFunc])→holds P σ p w (.one 146 [.slice b (.n 0) 1 L cap,.int .i64 0,.val .nilFunc]):=by
 intro σ p w h;simpa [holds,denL,den,ixN] using h
theorem jS (bs:List Int) (bud:Int) (cap L:Nat) (hb8:∀x∈bs,kF x) (hL:L=bs.length) (hLc:L≤cap) (hLm:L≤140737488355328) :
  Con Try.prog 14 [.slice 0 .z 1 L cap,.int .i64 bud] [.ro .u8 bs] (fun v H R=>R=[]∧∃(out:List Int) (n e:Int) (ml mc mc2:Nat),MemR bs bud out n e∧v=.tup [.slice 1 .z 1 ml mc,.int .i64 n,.int .i64 e]∧ml=out.length∧ml≤mc∧H=[.ro .u8 bs,.buf 5 .u8 out mc2]):=by
 have hrun:=kpE bs bud cap L hb8 hL hLc hLm;have hwh:=kgL bs L cap;have huse:=@knw;have f39:=fw39.go;have hsz:=@kpY Try.prog;refine kf (kD (kg (kc kj krQ ?_)))
 intro _ vc _ _ _ _ _ _ _ _ _ _ _ _ _ _ _ _ _ _ _ _ _ qc _ _ _ _ _ _ _ _ _ _ _ _ _ _ _ _ _ _ _;have hm:=kj;generalize Try.prog=P at *;cbv;refine ka (ρ:=[(0,.z)]) hwh ⟨by rfl,by rfl,by rfl,by cbv;(repeat' first|(refine And.intro ?_ ?_)|exact trivial|exact⟨Nat.le_refl _⟩|exact kb _|exact fun _=>rfl|(simp only[renL3];done)|(show SB.roA _ _ _=SB.roA _ _ _;rfl)|exact funext fun _=>rfl)⟩ ?_
 rintro v H R js ⟨rfl,rfl,rfl⟩;cbv;refine CallX.cv f39 (Cv.nilB 1 0 5 .u8 (by rfl) (by cbv;(repeat' first|(refine And.intro ?_ ?_)|exact trivial|exact⟨Nat.le_refl _⟩|exact kb _|exact fun _=>rfl|(simp only[renL3];done)|(show SB.roA _ _ _=SB.roA _ _ _;rfl)|exact funext fun _=>rfl)) (Cv.blockEq 2 (.one 146 [.slice 0 .z 1 L cap,.int .i64 0,.val .nilFunc]) (.one 146 [.slice 0 (.n 0) 1 L cap,.int .i64 0,.val .nilFunc]) (by rfl) (by rfl) (by rfl) (by rfl) (hsz 0 L cap) (Cv.here ?_))) (by rfl)
 refine ka (ρ:=[(2,.z),(0,.z),(1,.z),(3,.z)]) hrun ⟨by rfl,by rfl,by rfl,by cbv;(repeat' first|(refine And.intro ?_ ?_)|exact trivial|exact⟨Nat.le_refl _⟩|exact kb _|exact fun _=>rfl|(simp only[renL3];done)|(show SB.roA _ _ _=SB.roA _ _ _;rfl)|exact funext fun _=>rfl)⟩ ?_
 rintro v H R js2 ⟨rfl,out,n,e,U,o,q,c,ml,mc,mc2,hM,rfl,hU,hml,hmc,rfl⟩;by_cases he:e=0
 ·subst he;obtain rfl:U=n:=hU rfl;have h00:vc .neq 0 0=false:=by rw[qc];rfl
  have hus:=huse bs o q c U;cbv;rw[h00];cbv;refine ka (ρ:=[(2,.z),(0,.z)]) hus ⟨by rfl,by rfl,by rfl,by cbv;(repeat' first|(refine And.intro ?_ ?_)|exact trivial|exact⟨Nat.le_refl _⟩|exact kb _|exact fun _=>rfl|(simp only[renL3];done)|(show SB.roA _ _ _=SB.roA _ _ _;rfl)|exact funext fun _=>rfl)⟩ ?_
  rintro v H R js3 ⟨rfl,rfl,rfl⟩;cbv;exact⟨[],[0,3],.tup [.slice 1 .z 1 ml mc,.int .i64 U,.lit .i64 0],[.ro .u8 bs,.buf 5 .u8 out mc2],rfl,rfl,rfl,rfl,by first|rfl|trivial,⟨rfl,rfl,trivial⟩,rfl,out,U,0,ml,mc,mc2,hM,rfl,hml,hmc,rfl⟩
 ·have hne:vc .neq e 0=true:=by rw[qc,kz];exact he
  have hn:n=0:=hM.code he;subst hn;cbv;rw[hne];cbv;exact⟨[],[0,3],.tup [.slice 1 .z 1 ml mc,.lit .i64 0,.int .i64 e],[.ro .u8 bs,.buf 5 .u8 out mc2],rfl,rfl,rfl,rfl,by first|rfl|trivial,⟨rfl,rfl,trivial⟩,rfl,out,0,e,ml,mc,mc2,hM,rfl,hml,hmc,rfl⟩
def kdq (b:List Int):Int×Int:=match hdP b 16777216 with
 |.err e=>(0,e)
 |.skip s=>if (b.length:Int)-8<s-1 then(0,10) else(0,0)
 |.frm _ win _ _ _ _=>(win,0)
theorem kpF {b:List Int} {bud:Int} {k:Nat} {win most siz:Int} {told sm:Bool} (hby:∀x∈b,kF x) (h:hdP b bud=.frm k win most siz told sm):0≤win∧win≤16777216:=by
 obtain⟨_,_,_,_,_,h6,_,h8,_,h9⟩:=kcn h;have:=kdV hby (b.getD 4 0) (by omega);cases h9
 omega
theorem kfL (bs:List Int) (cap L:Nat) (hb8:∀x∈bs,kF x) (hL:L=bs.length) (hLc:L≤cap) (hLm:L≤140737488355328) :
  Con Try.prog 16 [.slice 0 .z 1 L cap] [.ro .u8 bs] (fun v H R=>v=.tup [.int .i64 (kdq bs).1,.int .i64 (kdq bs).2]∧H=[.ro .u8 bs]∧R=[]):=by
 have hwh:=kgL bs L cap;have hhd:=kkE bs cap 16777216 hb8 (by omega) (by omega);rw[←hL] at hhd;have hnd:=kfF bs;have hsz:=@kpY Try.prog;obtain⟨wn,hwn⟩:∃x,x=kdq bs:=⟨_,rfl⟩;rw[←hwn];have f43:=kqW;refine kf (kw 1 (by simp) (kg (kc kj krS ?_)))
 intro vb vc vw _ _ _ _ _ _ _ _ _ _ _ _ _ _ _ _ vnotB _ hw qb qc qw _ _ _ _ _ _ _ _ _ _ _ _ _ _ _ _ qnotB _;have hm:=kj;generalize Try.prog=P at *;cbv;refine ka (ρ:=[(0,.z)]) hwh ⟨by rfl,by rfl,by rfl,by cbv;(repeat' first|(refine And.intro ?_ ?_)|exact trivial|exact⟨Nat.le_refl _⟩|exact kb _|exact fun _=>rfl|(simp only[renL3];done)|(show SB.roA _ _ _=SB.roA _ _ _;rfl)|exact funext fun _=>rfl)⟩ ?_
 rintro v H R js ⟨rfl,rfl,rfl⟩;cbv;refine CallX.cv f43.go (Cv.blockEq 1 (.one 146 [.slice 0 .z 1 L cap,.int .i64 0,.val .nilFunc]) (.one 146 [.slice 0 (.n 0) 1 L cap,.int .i64 0,.val .nilFunc]) (by rfl) (by rfl) (by rfl) (by rfl) (hsz 0 L cap) (Cv.here ?_)) (by rfl)
 refine ka (ρ:=[(1,.z),(0,.z)]) hhd ⟨by rfl,by rfl,by rfl,by cbv;(repeat' first|(refine And.intro ?_ ?_)|exact trivial|exact⟨Nat.le_refl _⟩|exact kb _|exact fun _=>rfl|(simp only[renL3];done)|(show SB.roA _ _ _=SB.roA _ _ _;rfl)|exact funext fun _=>rfl)⟩ ?_
 rintro v H R js2 ⟨rfl,⟨e,o,q,c,u,hh,rfl,rfl⟩|⟨s,o,q,c,hh,hSA,hq,hc,rfl,rfl⟩|⟨k,win,most,siz,told,sm,o,q,c,ki,hh,hSA,hq,hc,hki,rfl,rfl⟩⟩
 ·have he:e≠0:=kkD hh;have hne:vc .neq e 0=true:=by rw[qc,kz];exact he
  have hw:wn=(0,e):=by rw[hwn];unfold kdq;rw[hh]
  subst hw;cbv;rw[hne];cbv
 ·have hq:q=L-8:=hq;have h00:vc .neq 0 0=false:=by rw[qc];rfl
  have hnt:vnotB true=false:=by rw[qnotB];rfl
  have hnf:vnotB false=true:=by rw[qnotB];rfl
  refine Exists.elim (kX (s-1)) (fun s1 hs1=>?_)
  have hsp:=kb4 hh;have hsr:=kY (qr hb8 4 4) 4;have hs0:0≤s1∧s1<4294967296:=by rw[hs1,hsp.2.2.2];rw[show(2:Int)^(8*4)=4294967296 by decide] at hsr;omega
  have hsg:vc .gtr s 0=true:=by rw[qc,gtr_true];omega
  have es1:vb .sub .u64 s 1=s1:=by rw[qb,hs1];show IntKind.u64.wrap (s-1)=s-1;exact wrap_u64 (by omega) (by omega)
  have ew1:vw .i64 s1=s1:=by rw[qw];exact wrap_i64 (by omega) (by omega)
  have ew0:vw .i64 0=0:=by rw[qw];exact wrap_i64 (by omega) (by omega)
  have hn:=hnd o q c 8 s1;by_cases hb:(L:Int)-8<s1
  ·rw[show decide (s1≤(q:Int))=false by simp;omega] at hn;have hw:wn=(0,10):=by rw[hwn];unfold kdq;rw[hh];exact if_pos (by rw[←hL,←hs1];exact hb)
   subst hw;cbv;rw[h00];cbv;rw[hsg];cbv;rw[es1,ew1];refine ka (ρ:=[(1,.z),(0,.z)]) hn ⟨by rfl,by rfl,by rfl,by cbv;(repeat' first|(refine And.intro ?_ ?_)|exact trivial|exact⟨Nat.le_refl _⟩|exact kb _|exact fun _=>rfl|(simp only[renL3];done)|(show SB.roA _ _ _=SB.roA _ _ _;rfl)|exact funext fun _=>rfl)⟩ ?_
   rintro v H R js3 ⟨rfl,rfl,rfl⟩;cbv;rw[hnf];cbv
  ·rw[show decide (s1≤(q:Int))=true by simp;omega] at hn;have hw:wn=(0,0):=by rw[hwn];unfold kdq;rw[hh];exact if_neg (by rw[←hL,←hs1];exact hb)
   subst hw;cbv;rw[h00];cbv;rw[hsg];cbv;rw[es1,ew1];refine ka (ρ:=[(1,.z),(0,.z)]) hn ⟨by rfl,by rfl,by rfl,by cbv;(repeat' first|(refine And.intro ?_ ?_)|exact trivial|exact⟨Nat.le_refl _⟩|exact kb _|exact fun _=>rfl|(simp only[renL3];done)|(show SB.roA _ _ _=SB.roA _ _ _;rfl)|exact funext fun _=>rfl)⟩ ?_
   rintro v H R js3 ⟨rfl,rfl,rfl⟩;cbv;rw[hnt];cbv;rw[ew0];exact⟨rfl,trivial⟩
 ·have h00:vc .neq 0 0=false:=by rw[qc];rfl
  have hs0:vc .gtr 0 0=false:=by rw[qc];rfl
  have hwr:=kpF hb8 hh;have ew:vw .i64 win=win:=by rw[qw];exact wrap_i64 (by omega) (by omega)
  have hw:wn=(win,0):=by rw[hwn];unfold kdq;rw[hh]
  subst hw;cbv;rw[h00];cbv;rw[hs0];cbv;rw[ew];exact⟨rfl,trivial⟩
theorem u8s (l:List Int) (h:l.all (fun c=>decide (0≤c∧c≤255))=true):∀c∈l,kF c:=fun c hc=>by
 have:=List.all_eq_true.1 h c hc;simpa [kF] using this
theorem mem1:MemR [40,181,47,253,32,3,25,0,0,97,98,99] 1048576 [97,98,99] 12 0:=
 .fin (k:=6) (k':=12) (win:=3) (most:=3) (siz:=3) (told:=true) (sm:=false) (F:=⟨[],kho,kho,kho,1,4,8,[97,98,99]⟩) (by rfl) (.last (by rfl)) (by rfl)
theorem mem2:MemR [40,181,47,253,32,3,27,0,0,97] 3 [97,97,97] 10 0:=
 .fin (k:=6) (k':=10) (win:=3) (most:=3) (siz:=3) (told:=true) (sm:=false) (F:=⟨[],kho,kho,kho,1,4,8,[97,97,97]⟩) (by rfl) (.last (by rfl)) (by rfl)
theorem ksI:kdq [40,181,47,253,0,80]=(1048576,0):=by rfl
theorem kb6:Con Try.prog 15 [] [] (fun v H R=>v=.bool true∧H=[]∧R=[]):=by
 have h1:=fun cap h=>(jS [40,181,47,253,32,3,25,0,0,97,98,99] 1048576 cap 12 (u8s _ rfl) rfl h (by decide)).mono (Post':=fun v H R=>R=[]∧∃mc mc2:Nat,v=.tup [.slice 1 .z 1 3 mc,.int .i64 12,.int .i64 0]∧3≤mc∧H=[.ro .u8 [40,181,47,253,32,3,25,0,0,97,98,99],.buf 5 .u8 [97,98,99] mc2]) (by
  rintro v H R ⟨hR,out,n,e,ml,mc,mc2,hM,hv,hml,hmc,hH⟩;obtain⟨rfl,rfl,rfl⟩:=hM.uniq mem1;obtain rfl:ml=3:=hml;exact⟨hR,mc,mc2,hv,hmc,hH⟩)
 have h2:=fun cap h=>(jS [40,181,47,253,32,3,27,0,0,97] 3 cap 10 (u8s _ rfl) rfl h (by decide)).mono (Post':=fun v H R=>R=[]∧∃mc mc2:Nat,v=.tup [.slice 1 .z 1 3 mc,.int .i64 10,.int .i64 0]∧3≤mc∧H=[.ro .u8 [40,181,47,253,32,3,27,0,0,97],.buf 5 .u8 [97,97,97] mc2]) (by
  rintro v H R ⟨hR,out,n,e,ml,mc,mc2,hM,hv,hml,hmc,hH⟩;obtain⟨rfl,rfl,rfl⟩:=hM.uniq mem2;obtain rfl:ml=3:=hml;exact⟨hR,mc,mc2,hv,hmc,hH⟩)
 have h3:=fun cap h=>kfL [40,181,47,253,0,80] cap 6 (u8s _ rfl) rfl h (by decide)
 rw[ksI] at h3;refine kf (kw 0 (by simp) (kg (kc kj krR ?_)))
 intro _ vc _ _ _ vaddN _ _ _ _ _ _ vln _ vsub _ _ vstrEq _ _ _ _ _ qc _ _ _ qaddN _ _ _ _ _ _ qln _ qsub _ _ qstrEq _ _ _;have hm:=kj;generalize Try.prog=P at *;have hstr:∀l,vstrEq l l=true:=fun l=>by rw[qstrEq];simp
 have ha0:∀n,vaddN 0 n=n:=fun n=>by simp only[qaddN,Nat.zero_add]
 have hlnq:∀l,vln l=l.length:=fun l=>by simp only[qln]
 have hsubq:∀(l:List Int) q,vsub l 0 q=l.take q:=fun l q=>by simp only[qsub,List.drop_zero]
 have hee:∀x:Int,vc .eql x x=true:=fun x=>by rw[qc,kt]
 cbv;refine ka (ρ:=[(0,.z)]) (h1 12 (by decide)) ⟨by rfl,by rfl,by rfl,by cbv;(repeat' first|(refine And.intro ?_ ?_)|exact trivial|exact⟨Nat.le_refl _⟩|exact kb _|exact fun _=>rfl|(simp only[renL3];done)|(show SB.roA _ _ _=SB.roA _ _ _;rfl)|exact funext fun _=>rfl)⟩ ?_
 rintro v H R js ⟨rfl,c1,c1b,rfl,hc1,rfl⟩;cbv;refine ka (ρ:=[(2,.z)]) (h2 10 (by decide)) ⟨by rfl,by rfl,by rfl,by cbv;(repeat' first|(refine And.intro ?_ ?_)|exact trivial|exact⟨Nat.le_refl _⟩|exact kb _|exact fun _=>rfl|(simp only[renL3];done)|(show SB.roA _ _ _=SB.roA _ _ _;rfl)|exact funext fun _=>rfl)⟩ ?_
 rintro v H R js2 ⟨rfl,c2,c2b,rfl,hc2,rfl⟩;cbv;refine ka (ρ:=[(4,.z)]) (h3 6 (by decide)) ⟨by rfl,by rfl,by rfl,by cbv;(repeat' first|(refine And.intro ?_ ?_)|exact trivial|exact⟨Nat.le_refl _⟩|exact kb _|exact fun _=>rfl|(simp only[renL3];done)|(show SB.roA _ _ _=SB.roA _ _ _;rfl)|exact funext fun _=>rfl)⟩ ?_
 rintro v H R js3 ⟨rfl,rfl,rfl⟩;cbv;rw[hee];cbv;rw[hee];cbv;refine⟨⟨by rw[ha0,hlnq];decide⟩,?_⟩
 rw[show vsub [97,98,99] 0 3=[97,98,99] by rw[hsubq];rfl,hstr];cbv;rw[hee];cbv;rw[hee];cbv;refine⟨⟨by rw[ha0,hlnq];decide⟩,?_⟩
 rw[show vsub [97,97,97] 0 3=[97,97,97] by rw[hsubq];rfl,hstr];cbv;rw[hee];cbv;rw[hee];cbv
end Go.Proofs.Ytlclleihoampdaa
