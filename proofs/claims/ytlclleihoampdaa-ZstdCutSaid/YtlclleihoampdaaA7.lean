import Derived.Test.YtlclleihoampdaaED
import Derived.Test.YtlclleihoampdaaA5
import Derived.Test.YtlclleihoampdaaA6
import Derived.Test.YtlclleihoampdaaA4
set_option linter.unusedVariables false
set_option linter.unusedSimpArgs false
namespace Go.Proofs.Ytlclleihoampdaa
open Go Go.Sx Go.Proofs
set_option maxRecDepth 10000
set_option maxHeartbeats 40000000
def kdl (w:List Int):klU→Int×List Int×List Int×Int
  |.bad e=>(e,[],w,0)
  |.keep L u=>(0,L,w,u)
  |.rep x n u=>(0,List.replicate n x,w,u)
  |.own L l u=>(0,L,l,u)
noncomputable def klX (b w:List Int) (most:Int):Int×List Int×List Int×Int:=kdl w (RdL b w most)
theorem knB {u e:Int} {o:Option (List Int)} (h:kept u o=.bad e):e≠0:=by
  cases o with
  |none=>cases h;decide
  |some L=>cases h
theorem klY {l:List Int} {u e:Int} {o:Option (List Int)} (h:owned l u o=.bad e):e≠0:=by
  cases o with
  |none=>cases h;decide
  |some L=>cases h
theorem kkv {b w:List Int} {most e:Int} (h:RdL b w most=.bad e):e≠0:=by
  unfold RdL kb2 at h;repeat' split at h
  all_goals first|(cases h;decide)|exact knB h|exact klY h|cases h
theorem knC (b w:List Int) (cap cw cw2:Nat) (most:Int) (hb:∀c∈b,kF c) (hw8:∀c∈w,kF c) (hbl:b.length≤140737488355328) (hwl:w.length≤140737488355328) (hcap:b.length≤cap) (hcm:cap≤9223372036854775807) :
    Con Try.prog 23 [.slice 0 .z 1 b.length cap,.slice 1 .z 1 w.length cw,.int .i64 most] [.ro .u8 b,.buf 5 .u8 w cw2]
      (fun v H R=>R=[1]∧∃e L l u,klX b w most=(e,L,l,u) ∧
        ((∃e',e'≠0∧v=.tup [.val (.slice none 0 0),.val (.slice none 0 0),.int .i64 0,.int .i64 e']∧e=e'∧H=[.ro .u8 b,.buf 5 .u8 w cw2]) ∨
         (e=0∧∃(LL:List Int) (n c c2 d d2:Nat),n=L.length∧n≤LL.length∧n≤c∧LL.take n=L∧v=.tup [.slice 2 .z 1 n c,.slice 1 .z 1 l.length d,.int .i64 u,.int .i64 0]∧H=[.ro .u8 b,.buf 5 .u8 l d2,.buf 5 .u8 LL c2]))):=by
  have hr:=knv b w cap cw most hb hw8 hbl hwl hcap hcm;obtain⟨Q,hQ⟩:∃Q,Q=RdL b w most:=⟨_,rfl⟩;have hlit:klX b w most=kdl w Q:=by rw[hQ];rfl
  have hne:∀e,Q=.bad e→e≠0:=fun e h=>kkv (hQ▸h)
  rw[←hQ] at hr;clear hQ;obtain⟨PP,hPP⟩:∃PP,PP=PRd b w cw Q:=⟨_,rfl⟩;rw[←hPP] at hr;obtain⟨W0,hW0⟩:∃W0,W0=w:=⟨_,rfl⟩;generalize klX b w most=LR at *;obtain⟨bl,hbl'⟩:∃x,x=b.length:=⟨_,rfl⟩;obtain⟨wl,hwl'⟩:∃x,x=w.length:=⟨_,rfl⟩;have hr2:Con Try.prog 23 [.slice 0 .z 1 bl cap,.slice 1 .z 1 wl cw,.int .i64 most] [.ro .u8 b,.ro .u8 w] (fun v H R=>R=[]∧PP v H):=by rw[hbl',hwl'];exact hr
  rw[←hbl',←hwl'];clear hr;refine kD (kmX 2 (kil ?_))
  generalize Try.prog=P at *;cbv;refine ka (ρ:=[(0,.z),(1,.z)]) hr2 ⟨by rfl,by rfl,by rfl,by cbv;(repeat' first|(refine And.intro ?_ ?_)|exact trivial|exact⟨Nat.le_refl _⟩|exact kb _|exact fun _=>rfl|(simp only[renL3];done)|(show SB.roA _ _ _=SB.roA _ _ _;rfl)|exact funext fun _=>rfl)⟩ ?_
  rintro v H R js ⟨rfl,hP⟩;rw[hPP] at hP;cases Q with
  | bad e=>
    obtain⟨rfl,rfl⟩:=hP;cbv;exact⟨[1],[0,1],.tup [.val (.slice none 0 0),.val (.slice none 0 0),.int .i64 0,.int .i64 e],[.ro .u8 b,.buf 5 .u8 w cw2],rfl,rfl,rfl,rfl,rfl,⟨rfl,rfl,trivial⟩,rfl,e,[],w,0,hlit,.inl ⟨e,hne e rfl,rfl,rfl,rfl⟩⟩
  | keep L u=>
    obtain⟨c,hnc,rfl,rfl⟩:=hP;obtain⟨n,hn⟩:∃n,n=L.length:=⟨_,rfl⟩;have htk:L.take n=L:=by rw[hn];exact List.take_length
    have hle:n≤L.length:=Nat.le_of_eq hn;have hnc2:n≤c:=by rw[hn];exact hnc
    rw[←hwl',←hn];cbv;refine⟨[1],[0,1,2],.tup [.slice 2 .z 1 n c,.slice 1 .z 1 wl cw,.int .i64 u,.int .i64 0],[.ro .u8 b,.buf 5 .u8 w cw2,.buf 5 .u8 L c],rfl,rfl,rfl,rfl,rfl,⟨rfl,rfl,rfl,trivial⟩,rfl,0,L,w,u,hlit,.inr ⟨rfl,L,n,c,c,cw,cw2,hn,hle,hnc2,htk,?_,rfl⟩⟩
    rw[hwl']
  | rep x n u=>
    obtain⟨L,c,h0,h1,h2,rfl,rfl⟩:=hP;rw[←hwl'];cbv;refine⟨[1],[0,1,2],.tup [.slice 2 .z 1 n c,.slice 1 .z 1 wl cw,.int .i64 u,.int .i64 0],[.ro .u8 b,.buf 5 .u8 w cw2,.buf 5 .u8 L L.length],rfl,rfl,rfl,rfl,rfl,⟨rfl,rfl,rfl,trivial⟩,rfl,0,List.replicate n x,w,u,hlit,.inr ⟨rfl,L,n,c,L.length,cw,cw2,by rw[List.length_replicate],h1,h0,h2,?_,rfl⟩⟩
    rw[hwl']
  | own L l u=>
    obtain⟨c,c3,hnc,rfl,rfl⟩:=hP;obtain⟨n,hn⟩:∃n,n=L.length:=⟨_,rfl⟩;have htk:L.take n=L:=by rw[hn];exact List.take_length
    have hle:n≤L.length:=Nat.le_of_eq hn;have hnc2:n≤c:=by rw[hn];exact hnc
    obtain⟨m,hm⟩:∃n,n=l.length:=⟨_,rfl⟩;rw[←hn,←hm];cbv;refine⟨[1],[0,3,2],.tup [.slice 2 .z 1 n c,.slice 1 .z 1 m c3,.int .i64 u,.int .i64 0],[.ro .u8 b,.buf 5 .u8 l c3,.buf 5 .u8 L c],rfl,rfl,rfl,rfl,rfl,⟨rfl,rfl,rfl,trivial⟩,rfl,0,L,l,u,hlit,.inr ⟨rfl,L,n,c,c,c3,c3,hn,hle,hnc2,htk,?_,rfl⟩⟩
    rw[hm]
set_option maxHeartbeats 4000000
theorem kgE {w b:List Int} {size each:Int} (h0:0≤each) (h1:each≤200000) (h2:size-3*each≤200000):∀(n q:Nat) (L R:List Int),ka2 w b size each n q L=some R→R.length≤L.length+n*200000
 |0,q,L,R,h=>by
  simp only[ka2,Option.some.injEq] at h;rw[h];omega
 | n+1,q,L,R,h=>by
  rw[ka2] at h;generalize (if 1≤n then w2 b (3-n) else(b.length:Int)-q)=K at h;obtain⟨m,hm⟩:∃m:Int,m=if 1≤n then each else size-3*each:=⟨_,rfl⟩
  rw[←hm] at h;have hm2:m≤200000:=by rw[hm];split<;>omega
  split at h
  ·cases h
  ·cases hl:unR w (seg b q K.toNat) m with
   |none=>rw[hl] at h;cases h
   |some l=>
    rw[hl] at h;have e:=khf hl;have:=kgE h0 h1 h2 n _ _ R h;rw[List.length_append] at this;rw[Nat.succ_mul];omega
theorem kgF {w b L:List Int} {size n:Int} (h0:0≤size) (h1:size≤131072) (h:qZ w b size n=some L):L.length≤1000000:=by
 unfold qZ at h;split at h
 ·rw[khf h];omega
 ·split at h
  ·cases h
  ·have:=kgE (by omega) (by omega) (by omega) _ _ _ _ h;rw[List.length_nil] at this;omega
theorem kfK {b w L l:List Int} {most u:Int} (hb:∀c∈b,kF c) (hw:∀c∈w,kF c) (hwl:w.length≤1000000) (h:klX b w most=(0,L,l,u)) :
  0≤u∧u≤b.length∧L.length≤1000000∧(∀c∈l,kF c)∧l.length≤1000000:=by
 unfold klX at h;have hne:=@kkv b w most;have hU:=khc b;have hS:=kjI b;have hP:=kdU hb;have hk:=kfH hb;have hB:0≤bhH b:=by
  unfold bhH;split
  ·exact hS
  ·split<;>omega
 obtain⟨f1,f2,f3,f4,f5,f6⟩:=kck b w most;by_cases h1:most<0∨131072<most
 ·rw[f1 h1] at h;exact absurd (congrArg Prod.fst h) (by simp[kdl])
 by_cases h2:b.length=0
 ·rw[f2 h1 h2] at h;exact absurd (congrArg Prod.fst h) (by simp[kdl])
 by_cases h3:(b.length:Int)<usH b
 ·rw[f3 h1 h2 h3] at h;exact absurd (congrArg Prod.fst h) (by simp[kdl])
 by_cases h4:most<szH b
 ·rw[f4 h1 h2 h3 h4] at h;exact absurd (congrArg Prod.fst h) (by simp[kdl])
 by_cases h5:(b.length:Int)<usH b+bhH b
 ·rw[f5 h1 h2 h3 h4 h5] at h;exact absurd (congrArg Prod.fst h) (by simp[kdl])
 rw[f6 h1 h2 h3 h4 h5] at h;clear f1 f2 f3 f4 f5 f6 hne;have hu:0≤(usH b:Int)+bhH b∧(usH b:Int)+bhH b≤b.length:=by omega
 have hsz:szH b≤131072:=by omega
 unfold kb2 at h;split at h
 ·rename_i hk0;simp only[kdl,Prod.mk.injEq] at h;obtain⟨_,rfl,rfl,rfl⟩:=h;refine⟨hu.1,hu.2,?_,hw,hwl⟩
  have hb0:bhH b=szH b:=by unfold bhH;rw[if_pos hk0]
  unfold seg;rw[List.length_take];omega
 ·split at h
  ·simp only[kdl,Prod.mk.injEq] at h;obtain⟨_,rfl,rfl,rfl⟩:=h;refine⟨hu.1,hu.2,?_,hw,hwl⟩
   rw[List.length_replicate];omega
  ·split at h
   ·split at h
    ·exact absurd (congrArg Prod.fst h) (by simp[kdl])
    ·rename_i l' hl';have hr:=(kiP hl').2;have hr8:=knq (jJ (kdi hb)) hr;cases ho:qZ l' ((seg b (usH b) (bhH b).toNat).drop (1+hnW (seg b (usH b) (bhH b).toNat)).toNat) (szH b) (rwH b) with
     |none=>rw[ho] at h;exact absurd (congrArg Prod.fst h) (by simp[kdl,owned,kept])
     |some L'=>
      rw[ho] at h;simp only[owned,kdl,Prod.mk.injEq] at h;obtain⟨_,rfl,rfl,rfl⟩:=h;exact⟨hu.1,hu.2,kgF hS hsz ho,hr8.1,by have:=hr8.2.1;omega⟩
   ·cases ho:qZ w (seg b (usH b) (bhH b).toNat) (szH b) (rwH b) with
    |none=>rw[ho] at h;exact absurd (congrArg Prod.fst h) (by simp[kdl,owned,kept])
    |some L'=>
     rw[ho] at h;simp only[kept,kdl,Prod.mk.injEq] at h;obtain⟨_,rfl,rfl,rfl⟩:=h;exact⟨hu.1,hu.2,kgF hS hsz ho,hw,hwl⟩
def ken (r:Int×Int×Int):Prop:=(0≤r.1∧r.1≤1000000)∧(0≤r.2.1∧r.2.1≤1000000)∧(0≤r.2.2∧r.2.2≤100000000000)
theorem knN {q:List Int} {p n:Int} {k:Nat} (h0:0≤n) (h:n≤k):0≤rd q p n.toNat∧rd q p n.toNat<2^k:=by
 have h1:=jg q p n.toNat;have h2:(2:Int)^n.toNat≤2^k:=by exact_mod_cast Nat.pow_le_pow_right (by decide) (by omega:n.toNat≤k)
 omega
theorem kiR {q:List Int} {T0 T1 T2:Tb} (h0:qs 35 T0) (h1:qs 31 T1) (h2:qs 52 T2):∀(m:Nat) (s0 s1 s2 p:Int) (ls:List (Int×Int×Int)),(0≤s0∧s0<T0.n)→(0≤s1∧s1<T1.n)→(0≤s2∧s2<T2.n)→(∀r∈ls,ken r) →
  ∀r∈(kay q T0 T1 T2 m s0 s1 s2 p ls).1,ken r
 |0,s0,s1,s2,p,ls,_,_,_,hls=>hls
 | m+1,s0,s1,s2,p,ls,hs0,hs1,hs2,hls=>by
  rcases h0 with h0|⟨lg0,n0,l0,c0⟩
  ·omega
  rcases h1 with h1|⟨lg1,n1,l1,c1⟩
  ·omega
  rcases h2 with h2|⟨lg2,n2,l2,c2⟩
  ·omega
  have k0:=c0 s0.toNat (by omega);have k1:=c1 s1.toNat (by omega);have k2:=c2 s2.toNat (by omega);have r0:=kgA ⟨k0.1,k0.2.1⟩;have r1:=kgC ⟨k1.1,k1.2.1⟩;have r2:=kgB ⟨k2.1,k2.2.1⟩;have e0:=fun p=>knN (q:=q) (p:=p) (k:=16) r0.2.2.1 r0.2.2.2
  have e1:=fun p=>knN (q:=q) (p:=p) (k:=31) r1.2.2.1 r1.2.2.2
  have e2:=fun p=>knN (q:=q) (p:=p) (k:=16) r2.2.2.1 r2.2.2.2
  rw[show(2:Int)^16=65536 by decide] at e0 e2;rw[show(2:Int)^31=2147483648 by decide] at e1;have f0:=fun p=>jg q p (T0.b s0.toNat).toNat
  have f1:=fun p=>jg q p (T1.b s1.toNat).toNat
  have f2:=fun p=>jg q p (T2.b s2.toNat).toNat
  have hrow:∀p0 p1 p2:Int,ken ((ofL (T0.a s0.toNat)).1+rd q p0 (ofL (T0.a s0.toNat)).2.toNat,(ofM (T2.a s2.toNat)).1+rd q p2 (ofM (T2.a s2.toNat)).2.toNat,(ofB (T1.a s1.toNat)).1+rd q p1 (ofB (T1.a s1.toNat)).2.toNat):=fun p0 p1 p2=>by
   have:=e0 p0;have:=e1 p1;have:=e2 p2;refine⟨?_,?_,?_⟩<;>simp only<;>omega
  have hcons:∀p0 p1 p2:Int,∀r∈ls++[((ofL (T0.a s0.toNat)).1+rd q p0 (ofL (T0.a s0.toNat)).2.toNat,(ofM (T2.a s2.toNat)).1+rd q p2 (ofM (T2.a s2.toNat)).2.toNat,(ofB (T1.a s1.toNat)).1+rd q p1 (ofB (T1.a s1.toNat)).2.toNat)],ken r:=fun p0 p1 p2 r hr=>by
   rcases List.mem_append.1 hr with hr|hr
   ·exact hls r hr
   ·rw[List.mem_singleton.1 hr];exact hrow p0 p1 p2
  rw[kay];split
  ·exact hcons _ _ _
  ·refine kiR (.inr ⟨lg0,n0,l0,c0⟩) (.inr ⟨lg1,n1,l1,c1⟩) (.inr ⟨lg2,n2,l2,c2⟩) m _ _ _ _ _ ?_ ?_ ?_ (hcons _ _ _)
   ·have:=f0 (p-(ofB (T1.a s1.toNat)).2-(ofM (T2.a s2.toNat)).2-(ofL (T0.a s0.toNat)).2);omega
   ·have:=f1 (p-(ofB (T1.a s1.toNat)).2-(ofM (T2.a s2.toNat)).2-(ofL (T0.a s0.toNat)).2-T0.b s0.toNat-T2.b s2.toNat);omega
   ·have:=f2 (p-(ofB (T1.a s1.toNat)).2-(ofM (T2.a s2.toNat)).2-(ofL (T0.a s0.toNat)).2-T0.b s0.toNat);omega
theorem knO {T:Tb} {most:Int} (h:qs most T) (hn:T.n≠0) (q:List Int) (p:Int):0≤rd q p (Nat.log2 T.n)∧rd q p (Nat.log2 T.n)<T.n:=by
 have h1:=jg q p (Nat.log2 T.n);have h2:2^Nat.log2 T.n≤T.n:=Nat.log2_self_le hn;have h3:(2:Int)^Nat.log2 T.n≤T.n:=by exact_mod_cast h2
 omega
theorem kpl {q:List Int} {n:Nat} {T0 T1 T2 A0 A1 A2:Tb} {LS:List (Int×Int×Int)} (h0:qs 35 T0) (h1:qs 31 T1) (h2:qs 52 T2) (n0:T0.n≠0) (n1:T1.n≠0) (n2:T2.n≠0) (h:kfJ q n T0 T1 T2=(0,LS,A0,A1,A2)) :
  (∀r∈LS,ken r)∧A0=T0∧A1=T1∧A2=T2:=by
 unfold kfJ at h;split at h
 ·exact absurd (congrArg Prod.fst h) (by simp)
 ·split at h
  ·exact absurd (congrArg Prod.fst h) (by simp)
  ·simp only[Prod.mk.injEq] at h;obtain⟨_,rfl,rfl,rfl,rfl⟩:=h;exact⟨kiR h0 h1 h2 n _ _ _ _ [] (knO h0 n0 _ _) (knO h1 n1 _ _) (knO h2 n2 _ _) (fun r hr=>by cases hr),rfl,rfl,rfl⟩
theorem kkz {b:List Int} {T0 T1 T2 A0 A1 A2:Tb} {LS:List (Int×Int×Int)} (hby:∀x∈b,isByte x) (h0:qs 35 T0) (h1:qs 31 T1) (h2:qs 52 T2) (h:qj b T0 T1 T2=(0,LS,A0,A1,A2)) :
  (∀r∈LS,ken r)∧qs 35 A0∧qs 31 A1∧qs 52 A2:=by
 have bd:=fun k=>show ∀x∈b.drop k,isByte x from fun x hx=>hby x (List.mem_of_mem_drop hx)
 unfold qj at h;split at h
 ·exact absurd (congrArg Prod.fst h) (by simp)
 ·split at h
  rename_i e n at' hh;split at h
  ·rename_i he;exact absurd (congrArg Prod.fst h) he
  ·split at h
   ·split at h
    ·exact absurd (congrArg Prod.fst h) (by simp)
    ·simp only[Prod.mk.injEq] at h;obtain⟨_,rfl,rfl,rfl,rfl⟩:=h;exact⟨(fun r hr=>by cases hr),h0,h1,h2⟩
   ·split at h
    ·exact absurd (congrArg Prod.fst h) (by simp)
    ·split at h
     ·exact absurd (congrArg Prod.fst h) (by simp)
     ·split at h
      rename_i e0 u0 T0' t0;split at h
      ·rename_i he;exact absurd (congrArg Prod.fst h) he
      ·rename_i he0;split at h
       rename_i e1 u1 T1' t1;split at h
       ·rename_i he;exact absurd (congrArg Prod.fst h) he
       ·rename_i he1;split at h
        rename_i e2 u2 T2' t2;split at h
        ·rename_i he;exact absurd (congrArg Prod.fst h) he
        ·rename_i he2;simp only[ne_eq,Decidable.not_not] at he0 he1 he2;subst he0 he1 he2;have k0:=kcl h0 kcM (by decide) (bd _) t0;have k1:=kcl h1 kcN (by decide) (bd _) t1;have k2:=kcl h2 kcO (by decide) (bd _) t2;obtain⟨a,rfl,rfl,rfl⟩:=kpl k0.1 k1.1 k2.1 k0.2.1 k1.2.1 k2.2.1 h;exact⟨a,k0.1,k1.1,k2.1⟩
def q8 (out:List Int) (f:Nat):Nat→List Int
 |0=>out
 |i+1=>q8 out f i++[(q8 out f i).getD (f+i) 0]
theorem kgG (out:List Int) (f:Nat):∀i,(q8 out f i).length=out.length+i
 |0=>rfl
 |i+1=>by rw[q8,List.length_append,kgG out f i,List.length_singleton];omega
def kjQ (out:List Int) (d m:Int):List Int:=if m≤d then out++sg out (out.length-d.toNat) m.toNat else q8 out (out.length-d.toNat) m.toNat
abbrev ST:=List Int×List Int×Int×Int×Int
def goP (win M:Int) (out lits:List Int) (m:Int):Int×Int×Int×Int×Int→Option ST
 |(d,e,a,b,c)=>if e≠0∨win<IntKind.u64.wrap d∨(out.length:Int)<d∨M<out.length+m then none else some (kjQ out d m,lits,a,b,c)
def khm (win M:Int) (r:Int×Int×Int):ST→Option ST
 |(out,lits,a,b,c)=>if (lits.length:Int)<r.1 then none else goP win M (out++lits.take r.1.toNat) (lits.drop r.1.toNat) r.2.1 (jV a b c r.1 r.2.2)
def kdY (win M:Int) (LS:List (Int×Int×Int)) (s:ST):Nat→Option ST
 |0=>some s
 |i+1=>(kdY win M LS s i).bind (khm win M (LS.getD i (0,0,0)))
theorem kgH {win M:Int} {LS:List (Int×Int×Int)} {s:ST} {i:Nat} (h:kdY win M LS s i=none):∀k,kdY win M LS s (i+k)=none
 |0=>h
 |k+1=>by rw[←Nat.add_assoc,kdY,kgH h k];rfl
theorem kl7 {win M:Int} {LS:List (Int×Int×Int)} {s:ST} {i n:Nat} (h:kdY win M LS s (i+1)=none) (hi:i<n):kdY win M LS s n=none:=by
 have:=kgH h (n-(i+1))
 rwa [show i+1+(n-(i+1))=n by omega] at this
structure FS where
 w:List Int
 T0:Tb
 T1:Tb
 T2:Tb
 a:Int
 b:Int
 c:Int
 out:List Int
structure kcp (F:FS):Prop where
 w8:∀c∈F.w,kF c
 wl:F.w.length≤1000000
 t0:qs 35 F.T0
 t1:qs 31 F.T1
 t2:qs 52 F.T2
def kpm (M:Int) (l:List Int) (T0 T1 T2:Tb):Option ST→Option FS
 |none=>none
 |some (out,lits,a,b,c)=>if M<(out++lits).length then none else some ⟨l,T0,T1,T2,a,b,c,out++lits⟩
noncomputable def kdn (win most:Int) (q:List Int) (F:FS):Option FS:=
 match klX q F.w most with
 |(e,L,l,u)=>if e≠0 then none else
  match qj (q.drop u.toNat) F.T0 F.T1 F.T2 with
  |(e,LS,T0,T1,T2)=>if e≠0 then none else kpm (F.out.length+most) l T0 T1 T2 (kdY win (F.out.length+most) LS (F.out,L,F.a,F.b,F.c) LS.length)
set_option maxHeartbeats 40000000
def bfT (T:Tb) (c:Nat):SB:=.bufA 79 3 T.n (fun m=>[.int .u8 (T.a m),.int .u8 (T.b m),.int .u16 (T.c m)]) c
def PSq (q:List Int) (T0 T1 T2:Tb) (v:SV) (H:List SB):Prop:=
  ∃ (LS : List (Int×Int×Int)) (A0 A1 A2:Tb) (e:Int),qj q T0 T1 T2=(e,LS,A0,A1,A2) ∧
    ((e ≠ 0∧∃(x y:SV) (B0 B1 B2:Tb) (j0 j1 j2 ll kl:Nat) (f g h:Nat→Int),x=.val (.slice none 0 0)∧y=.agg [.val (.slice none 0 0),.val (.slice none 0 0),.val (.slice none 0 0)]∧v=.tup [x,y,.int .i64 e] ∧
        H=[.ro .u8 q,bfT B0 j0,bfT B1 j1,bfT B2 j2,.bufA 24 3 ll (fun m=>[.int .i64 (f m),.int .i64 (g m),.int .i64 (h m)]) kl]) ∨
     (e =0∧∃(ll cl kl m0 m1 m2 j0 j1 j2:Nat) (f g h:Nat→Int),ll=LS.length∧f=(fun m=>(LS.getD m (0,0,0)).1)∧g=(fun m=>(LS.getD m (0,0,0)).2.1)∧h=(fun m=>(LS.getD m (0,0,0)).2.2) ∧
        v=.tup [.slice 4 .z 3 ll cl,.agg [.slice 1 .z 3 A0.n m0,.slice 2 .z 3 A1.n m1,.slice 3 .z 3 A2.n m2],.int .i64 0] ∧
        H=[.ro .u8 q,bfT A0 j0,bfT A1 j1,bfT A2 j2,.bufA 24 3 ll (fun m=>[.int .i64 (f m),.int .i64 (g m),.int .i64 (h m)]) kl]))
theorem kpn (b:List Int) (cap c0 c1 c2 k0 k1 k2:Nat) (T0 T1 T2:Tb) (hby:∀x∈b,isByte x) (hcap:b.length≤cap) (hT0:qs 35 T0) (hT1:qs 31 T1) (hT2:qs 52 T2) :
    Con Try.prog 12 [.slice 0 .z 1 b.length cap,.agg [.slice 1 .z 3 T0.n c0,.slice 2 .z 3 T1.n c1,.slice 3 .z 3 T2.n c2]] [.ro .u8 b,bfT T0 k0,bfT T1 k1,bfT T2 k2] (fun v H R=>R=[1,2,3]∧PSq b T0 T1 T2 v H):=by
  refine kju 24 3 (fun _=>[.int .i64 0,.int .i64 0,.int .i64 0]) ?_
  refine kqF _ b cap T0.n T1.n T2.n c0 c1 c2 k0 k1 k2 T0.a T0.b T0.c T1.a T1.b T1.c T2.a T2.b T2.c hby hcap hT0 hT1 hT2 ?_ ?_ ?_
  · intro e he hne M0 M1 M2 j0 j1 j2 x0 y0 z0 x1 y1 z1 x2 y2 z2
    refine .inr ⟨.tup [.val (.slice none 0 0),.agg [.val (.slice none 0 0),.val (.slice none 0 0),.val (.slice none 0 0)],.int .i64 e],rfl,?_,fun σ _=>rfl,rfl,?_⟩
    · exact⟨fun _=>rfl,fun _=>rfl,fun _=>rfl,trivial⟩
    · obtain⟨⟨e',LS,A0,A1,A2⟩,hS⟩:∃r,r=qj b T0 T1 T2:=⟨_,rfl⟩
      refine⟨LS,A0,A1,A2,e',hS.symm,.inl ⟨?_,_,_,⟨M0,x0,y0,z0⟩,⟨M1,x1,y1,z1⟩,⟨M2,x2,y2,z2⟩,j0,j1,j2,0,0,fun _=>0,fun _=>0,fun _=>0,rfl,rfl,?_,rfl⟩⟩
      · have:e'=e:=by rw[←he];exact congrArg Prod.fst hS
        rw[this];exact hne
      · have:e'=e:=by rw[←he];exact congrArg Prod.fst hS
        rw[this]
  · intro hS
    refine .inr ⟨.tup [.slice 4 .z 3 0 0,.agg [.slice 1 .z 3 T0.n c0,.slice 2 .z 3 T1.n c1,.slice 3 .z 3 T2.n c2],.int .i64 0],rfl,?_,fun σ h=>?_,rfl,?_⟩
    · exact⟨fun _=>rfl,fun _=>rfl,fun _=>rfl,trivial⟩
    · have h4:σ 4=none:=h
      simp[den,denL,h4]
    · exact⟨[],T0,T1,T2,0,hS,.inr ⟨rfl,0,0,0,c0,c1,c2,k0,k1,k2,fun _=>0,fun _=>0,fun _=>0,rfl,rfl,rfl,rfl,rfl,rfl⟩⟩
  · intro LS N0 N1 N2 A0 B0 C0 A1 B1 C1 A2 B2 C2 hS f g h ll cl kl m0 m1 m2 j0 j1 j2 hll hf hg hh
    exact .inl ⟨rfl,LS,⟨N0,A0,B0,C0⟩,⟨N1,A1,B1,C1⟩,⟨N2,A2,B2,C2⟩,0,hS,.inr ⟨rfl,ll,cl,kl,m0,m1,m2,j0,j1,j2,f,g,h,hll,hf,hg,hh,rfl,rfl⟩⟩
theorem kpo (b:List Int) (cap c0 c1 c2 k0 k1 k2:Nat) (T0 T1 T2:Tb) (hby:∀x∈b,isByte x) (hcap:b.length≤cap) (hT0:qs 35 T0) (hT1:qs 31 T1) (hT2:qs 52 T2) :
    Con Try.prog 12 [.slice 0 .z 1 b.length cap,.agg [.slice 1 .z 3 T0.n c0,.slice 2 .z 3 T1.n c1,.slice 3 .z 3 T2.n c2]] [.ro .u8 b,bfT T0 k0,bfT T1 k1,bfT T2 k2,.bufA 24 3 0 (fun _=>[.int .i64 0,.int .i64 0,.int .i64 0]) 0]
      (fun v H R=>R=[1,2,3,4]∧PSq b T0 T1 T2 v H):=by
  have hr:=kpn b cap c0 c1 c2 k0 k1 k2 T0 T1 T2 hby hcap hT0 hT1 hT2;obtain⟨PS,hPS⟩:∃PS,PS=PSq b T0 T1 T2:=⟨_,rfl⟩;rw[←hPS] at hr;obtain⟨bl,hbl⟩:∃x,x=b.length:=⟨_,rfl⟩;rw[←hbl] at hr ⊢
  refine kD (kil ?_)
  rw[←hPS];unfold bfT at hr ⊢
  generalize Try.prog=P at *;obtain⟨n0,a0,b0,d0⟩:=T0;obtain⟨n1,a1,b1,d1⟩:=T1;obtain⟨n2,a2,b2,d2⟩:=T2;cbv at hr
  cbv;refine ka (ρ:=[(0,.z),(1,.z),(2,.z),(3,.z)]) hr ⟨by rfl,by rfl,by rfl,by cbv;(repeat' first|(refine And.intro ?_ ?_)|exact trivial|exact⟨Nat.le_refl _⟩|exact kb _|exact fun _=>rfl|(simp only[renL3];done)|(show SB.roA _ _ _=SB.roA _ _ _;rfl)|exact funext fun _=>rfl)⟩ ?_
  rintro v H R js ⟨rfl,hP⟩;have hP2:=hP;rw[hPS] at hP2;obtain⟨LS,A0,A1,A2,e,hS,⟨he,x,y,B0,B1,B2,j0,j1,j2,ll,kl,f,g,h,rfl,rfl,rfl,rfl⟩|⟨he,ll,cl,kl,m0,m1,m2,j0,j1,j2,f,g,h,h1,h2,h3,h4,rfl,rfl⟩⟩:=hP2
  · clear hP
    cbv;(repeat refine And.intro (fun _=>rfl) ?_);refine⟨[1,2,3,4],[0,1,2,3,5],.tup [.val (.slice none 0 0),.agg [.val (.slice none 0 0),.val (.slice none 0 0),.val (.slice none 0 0)],.int .i64 e],[.ro .u8 b,.bufA 79 3 B0.n (fun m=>[.int .u8 (B0.a m),.int .u8 (B0.b m),.int .u16 (B0.c m)]) j0,.bufA 79 3 B1.n (fun m=>[.int .u8 (B1.a m),.int .u8 (B1.b m),.int .u16 (B1.c m)]) j1,.bufA 79 3 B2.n (fun m=>[.int .u8 (B2.a m),.int .u8 (B2.b m),.int .u16 (B2.c m)]) j2,.bufA 24 3 ll (fun m=>[.int .i64 (f m),.int .i64 (g m),.int .i64 (h m)]) kl],rfl,rfl,rfl,rfl,rfl,⟨rfl,rfl,fun _=>rfl,rfl,fun _=>rfl,rfl,fun _=>rfl,rfl,fun _=>rfl,trivial⟩,rfl,?_⟩
    rw[hPS];exact⟨LS,A0,A1,A2,e,hS,.inl ⟨he,_,_,B0,B1,B2,j0,j1,j2,ll,kl,f,g,h,rfl,rfl,rfl,rfl⟩⟩
  · clear hP
    cbv;(repeat refine And.intro (fun _=>rfl) ?_);refine⟨[1,2,3,4],[0,1,2,3,5],.tup [.slice 4 .z 3 ll cl,.agg [.slice 1 .z 3 A0.n m0,.slice 2 .z 3 A1.n m1,.slice 3 .z 3 A2.n m2],.int .i64 0],[.ro .u8 b,.bufA 79 3 A0.n (fun m=>[.int .u8 (A0.a m),.int .u8 (A0.b m),.int .u16 (A0.c m)]) j0,.bufA 79 3 A1.n (fun m=>[.int .u8 (A1.a m),.int .u8 (A1.b m),.int .u16 (A1.c m)]) j1,.bufA 79 3 A2.n (fun m=>[.int .u8 (A2.a m),.int .u8 (A2.b m),.int .u16 (A2.c m)]) j2,.bufA 24 3 ll (fun m=>[.int .i64 (f m),.int .i64 (g m),.int .i64 (h m)]) kl],rfl,rfl,rfl,rfl,rfl,⟨rfl,rfl,fun _=>rfl,rfl,fun _=>rfl,rfl,fun _=>rfl,rfl,fun _=>rfl,trivial⟩,rfl,?_⟩
    rw[hPS];exact⟨LS,A0,A1,A2,e,hS,.inr ⟨he,ll,cl,kl,m0,m1,m2,j0,j1,j2,f,g,h,h1,h2,h3,h4,rfl,rfl⟩⟩
set_option maxHeartbeats 4000000
theorem knP {a b c l k d a' b' c':Int} (hk:k≤100000000000) (h:jV a b c l k=(d,0,a',b',c')):1≤d:=by
 unfold jV at h;by_cases h1:k<1
 ·rw[if_pos h1] at h;exact absurd (congrArg (fun x=>x.2.1) h) (by simp)
 rw[if_neg h1] at h;by_cases h2:3<k
 ·rw[if_pos h2] at h;have e:bV .sub .i64 k 3=k-3:=kJ (by omega) (by omega);have:=congrArg Prod.fst h;simp only at this
  omega
 rw[if_neg h2] at h;by_cases h3:dOf a b c (kOf l k)<1
 ·rw[if_pos h3] at h;exact absurd (congrArg (fun x=>x.2.1) h) (by simp)
 rw[if_neg h3] at h;have:=congrArg Prod.fst h;simp only at this
 omega
theorem kl8 {win M:Int} {r:Int×Int×Int} {o t:List Int} {x y z:Int} (h:(t.length:Int)<r.1):khm win M r (o,t,x,y,z)=none:=if_pos h
theorem kpp {win M l:Int} {r:Int×Int×Int} {o t o1:List Int} {x y z d e a b c:Int} (h:¬(t.length:Int)<r.1) (hl:l=r.1) (ho:o1=o++t.take l.toNat) (hv:jV x y z r.1 r.2.2=(d,e,a,b,c)) (hb:e≠0∨win<IntKind.u64.wrap d∨(o1.length:Int)<d∨M<o1.length+r.2.1):khm win M r (o,t,x,y,z)=none:=by
 subst hl ho;simp only[khm];rw[if_neg h,hv];exact if_pos hb
theorem kqG {win M l:Int} {r:Int×Int×Int} {o t o1:List Int} {x y z d e a b c:Int} (h:¬(t.length:Int)<r.1) (hl:l=r.1) (ho:o1=o++t.take l.toNat) (hv:jV x y z r.1 r.2.2=(d,e,a,b,c)) (hb:¬(e≠0∨win<IntKind.u64.wrap d∨(o1.length:Int)<d∨M<o1.length+r.2.1)) :
  khm win M r (o,t,x,y,z)=some (kjQ o1 d r.2.1,t.drop l.toNat,a,b,c):=by
 subst hl ho;simp only[khm];rw[if_neg h,hv];exact if_neg hb
theorem kpq {o1:List Int} {d m:Int} {f n:Nat} (h:m≤d) (hf:f=o1.length-d.toNat) (hn:n=m.toNat):kjQ o1 d m=o1++sg o1 f n:=by
 subst hf hn;exact if_pos h
theorem knQ {o1:List Int} {d m:Int} {f n:Nat} (h:¬m≤d) (hf:f=o1.length-d.toNat) (hn:n=m.toNat):kjQ o1 d m=q8 o1 f n:=by
 subst hf hn;exact if_neg h
theorem row_in {LS:List (Int×Int×Int)} {i:Nat} (h:∀r∈LS,ken r) (hi:i<LS.length):ken (LS.getD i (0,0,0)):=by
 rw[List.getD_eq_getElem?_getD,List.getElem?_eq_getElem hi];exact h _ (List.getElem_mem hi)
structure LtOk (LL t:List Int) (lo ln cp:Nat):Prop where
 len:t.length=ln
 eq:t=(LL.drop lo).take ln
 le:lo+ln≤LL.length
 cap:ln≤cp
theorem LtOk.step {LL t:List Int} {lo ln cp lN lo2:Nat} (h:LtOk LL t lo ln cp) (hl:lN≤ln) (ho:lo2=if cp=lN then lo else lo+lN):LtOk LL (t.drop lN) lo2 (ln-lN) (cp-lN):=by
 obtain⟨h1,h2,h3,h4⟩:=h;subst ho;refine⟨by rw[List.length_drop,h1],?_,by split<;>omega,by omega⟩
 by_cases hc:cp=lN
 ·have e:ln-lN=0:=by omega
  rw[if_pos hc,e,List.take_zero];exact List.drop_eq_nil_of_le (by omega)
 ·rw[if_neg hc,h2,List.drop_take,List.drop_drop]
theorem LtOk.sub {LL t:List Int} {lo ln cp lN:Nat} (h:LtOk LL t lo ln cp) (hl:lN≤ln):(LL.drop lo).take lN=t.take lN:=by
 rw[h.eq,List.take_take,Nat.min_eq_left hl]
theorem kgI {q:List Int} {T0 T1 T2:Tb}:∀(m:Nat) (s0 s1 s2 p:Int) (ls:List (Int×Int×Int)),(kay q T0 T1 T2 m s0 s1 s2 p ls).1.length=ls.length+m
 |0,s0,s1,s2,p,ls=>rfl
 |m+1,s0,s1,s2,p,ls=>by
  rw[kay];split
  ·rename_i h;subst h;simp
  ·rw[kgI m];simp;omega
theorem kqH {b:List Int} (hby:∀x∈b,isByte x) {e n:Int} {a:Nat} (h:hdS b=(e,n,a)):n≤98047:=by
 have h0:=j5 hby 0;have h1:=j5 hby 1;have h2:=j5 hby 2;unfold hdS at h;repeat' split at h
 all_goals (have:=congrArg (fun x=>x.2.1) h;simp only at this;omega)
theorem knR {q:List Int} {n:Nat} {T0 T1 T2 A0 A1 A2:Tb} {LS:List (Int×Int×Int)} (h:kfJ q n T0 T1 T2=(0,LS,A0,A1,A2)):LS.length=n:=by
 unfold kfJ at h;split at h
 ·exact absurd (congrArg Prod.fst h) (by simp)
 ·split at h
  ·exact absurd (congrArg Prod.fst h) (by simp)
  ·simp only[Prod.mk.injEq] at h;obtain⟨_,rfl,_⟩:=h;rw[kgI];simp
theorem knS {b:List Int} {T0 T1 T2 A0 A1 A2:Tb} {LS:List (Int×Int×Int)} (hby:∀x∈b,isByte x) (h:qj b T0 T1 T2=(0,LS,A0,A1,A2)):LS.length≤100000:=by
 unfold qj at h;split at h
 ·exact absurd (congrArg Prod.fst h) (by simp)
 split at h
 rename_i e n at' hh;have hn:=kqH hby hh;split at h
 ·rename_i he;exact absurd (congrArg Prod.fst h) he
 split at h
 ·split at h
  ·exact absurd (congrArg Prod.fst h) (by simp)
  ·simp only[Prod.mk.injEq] at h;obtain⟨_,rfl,_⟩:=h;simp
 split at h
 ·exact absurd (congrArg Prod.fst h) (by simp)
 split at h
 ·exact absurd (congrArg Prod.fst h) (by simp)
 split at h
 split at h
 ·rename_i he;exact absurd (congrArg Prod.fst h) he
 split at h
 split at h
 ·rename_i he;exact absurd (congrArg Prod.fst h) he
 split at h
 split at h
 ·rename_i he;exact absurd (congrArg Prod.fst h) he
 rw[knR h];omega
theorem SA.sub {b:List Int} {L cap o k n:Nat} (h:SA L cap o k) (hL:L=b.length) (hn:n≤L-k):(b.drop o).take n=sg b k n:=by
 obtain⟨h1,h2,h3,h4⟩:=h;rcases h4 with rfl|h4
 ·rfl
 ·have:n=0:=by omega
  subst this;unfold sg;rw[List.take_zero,List.take_zero]
set_option maxHeartbeats 40000000
theorem kl9 (a b c lits back:Int) (w out:List Int) (wl wc wc2 n0 n1 n2 k0 k1 k2 j0 j1 j2 ol oc oc2:Nat) (x0 y0 z0 x1 y1 z1 x2 y2 z2:Nat→Int) (win most siz skip gone:Int) (told sm:Bool) (h:back<1):Con Try.prog 32 [.ptr 0 .z 15 4,.int .i64 lits,.int .i64 back] [.one 107 [.slice 1 .z 1 wl wc,.slice 2 .z 3 n0 k0,.slice 3 .z 3 n1 k1,.slice 4 .z 3 n2 k2,.int .i64 a,.int .i64 b,.int .i64 c,.int .u64 win,.int .i64 most,.int .u64 siz,.bool told,.bool sm,.int .u64 skip,.slice 5 .z 1 ol oc,.int .i64 gone],.buf 5 .u8 w wc2,.bufA 79 3 n0 (fun m=>[.int .u8 (x0 m),.int .u8 (y0 m),.int .u16 (z0 m)]) j0,.bufA 79 3 n1 (fun m=>[.int .u8 (x1 m),.int .u8 (y1 m),.int .u16 (z1 m)]) j1,.bufA 79 3 n2 (fun m=>[.int .u8 (x2 m),.int .u8 (y2 m),.int .u16 (z2 m)]) j2,.buf 5 .u8 out oc2] (fun v H R=>∃d e a' b' c',jV a b c lits back=(d,e,a',b',c')∧v=.tup [.int .i64 d,.int .i64 e]∧R=[]∧H=[.one 107 [.slice 1 .z 1 wl wc,.slice 2 .z 3 n0 k0,.slice 3 .z 3 n1 k1,.slice 4 .z 3 n2 k2,.int .i64 a',.int .i64 b',.int .i64 c',.int .u64 win,.int .i64 most,.int .u64 siz,.bool told,.bool sm,.int .u64 skip,.slice 5 .z 1 ol oc,.int .i64 gone],.buf 5 .u8 w wc2,.bufA 79 3 n0 (fun m=>[.int .u8 (x0 m),.int .u8 (y0 m),.int .u16 (z0 m)]) j0,.bufA 79 3 n1 (fun m=>[.int .u8 (x1 m),.int .u8 (y1 m),.int .u16 (z1 m)]) j1,.bufA 79 3 n2 (fun m=>[.int .u8 (x2 m),.int .u8 (y2 m),.int .u16 (z2 m)]) j2,.buf 5 .u8 out oc2]):=by
 have hv:jV a b c lits back=(0,2,a,b,c):=by unfold jV;rw[if_pos h]
 generalize jV a b c lits back=V at *;refine kf (kw 6 (by simp) (kg (kc kj kc8 ?_)))
 intro _ vc _ _ _ _ _ _ _ _ _ _ _ _ _ _ _ _ _ _ _ _ _ qc _ _ _ _ _ _ _ _ _ _ _ _ _ _ _ _ _ _ _;have hm:=kj;generalize Try.prog=P at *;have h1:vc .lss back 1=true:=by rw[qc,ko];exact h
 cbv;rw[h1];cbv;exact⟨0,2,a,b,c,hv,rfl,rfl,rfl⟩
theorem kma (a b c lits back:Int) (w out:List Int) (wl wc wc2 n0 n1 n2 k0 k1 k2 j0 j1 j2 ol oc oc2:Nat) (x0 y0 z0 x1 y1 z1 x2 y2 z2:Nat→Int) (win most siz skip gone:Int) (told sm:Bool) (h:3<back):Con Try.prog 32 [.ptr 0 .z 15 4,.int .i64 lits,.int .i64 back] [.one 107 [.slice 1 .z 1 wl wc,.slice 2 .z 3 n0 k0,.slice 3 .z 3 n1 k1,.slice 4 .z 3 n2 k2,.int .i64 a,.int .i64 b,.int .i64 c,.int .u64 win,.int .i64 most,.int .u64 siz,.bool told,.bool sm,.int .u64 skip,.slice 5 .z 1 ol oc,.int .i64 gone],.buf 5 .u8 w wc2,.bufA 79 3 n0 (fun m=>[.int .u8 (x0 m),.int .u8 (y0 m),.int .u16 (z0 m)]) j0,.bufA 79 3 n1 (fun m=>[.int .u8 (x1 m),.int .u8 (y1 m),.int .u16 (z1 m)]) j1,.bufA 79 3 n2 (fun m=>[.int .u8 (x2 m),.int .u8 (y2 m),.int .u16 (z2 m)]) j2,.buf 5 .u8 out oc2] (fun v H R=>∃d e a' b' c',jV a b c lits back=(d,e,a',b',c')∧v=.tup [.int .i64 d,.int .i64 e]∧R=[]∧H=[.one 107 [.slice 1 .z 1 wl wc,.slice 2 .z 3 n0 k0,.slice 3 .z 3 n1 k1,.slice 4 .z 3 n2 k2,.int .i64 a',.int .i64 b',.int .i64 c',.int .u64 win,.int .i64 most,.int .u64 siz,.bool told,.bool sm,.int .u64 skip,.slice 5 .z 1 ol oc,.int .i64 gone],.buf 5 .u8 w wc2,.bufA 79 3 n0 (fun m=>[.int .u8 (x0 m),.int .u8 (y0 m),.int .u16 (z0 m)]) j0,.bufA 79 3 n1 (fun m=>[.int .u8 (x1 m),.int .u8 (y1 m),.int .u16 (z1 m)]) j1,.bufA 79 3 n2 (fun m=>[.int .u8 (x2 m),.int .u8 (y2 m),.int .u16 (z2 m)]) j2,.buf 5 .u8 out oc2]):=by
 have hv:jV a b c lits back=(bV .sub .i64 back 3,0,bV .sub .i64 back 3,a,b):=by unfold jV;rw[if_neg (by omega),if_pos h]
 generalize jV a b c lits back=V at *;obtain⟨d,hd⟩:∃d,d=bV .sub .i64 back 3:=⟨_,rfl⟩;rw[←hd] at hv;refine kf (kw 6 (by simp) (kg (kc kj kc8 ?_)))
 intro vb vc _ _ _ _ _ _ _ _ _ _ _ _ _ _ _ _ _ _ _ _ qb qc _ _ _ _ _ _ _ _ _ _ _ _ _ _ _ _ _ _ _;have hm:=kj;generalize Try.prog=P at *;have h1:vc .lss back 1=false:=by rw[qc,km];omega
 have h2:vc .gtr back 3=true:=by rw[qc,gtr_true];exact h
 have h3:vb .sub .i64 back 3=d:=by rw[qb];exact hd.symm
 cbv;rw[h1];cbv;rw[h2];cbv;rw[h3];(repeat refine And.intro ⟨by decide⟩ ?_);cbv;exact⟨d,0,d,a,b,hv,rfl,rfl,rfl⟩
theorem knT (a b c lits:Int) (w out:List Int) (wl wc wc2 n0 n1 n2 k0 k1 k2 j0 j1 j2 ol oc oc2:Nat) (x0 y0 z0 x1 y1 z1 x2 y2 z2:Nat→Int) (win most siz skip gone:Int) (told sm:Bool):Con Try.prog 32 [.ptr 0 .z 15 4,.int .i64 lits,.lit .i64 1] [.one 107 [.slice 1 .z 1 wl wc,.slice 2 .z 3 n0 k0,.slice 3 .z 3 n1 k1,.slice 4 .z 3 n2 k2,.int .i64 a,.int .i64 b,.int .i64 c,.int .u64 win,.int .i64 most,.int .u64 siz,.bool told,.bool sm,.int .u64 skip,.slice 5 .z 1 ol oc,.int .i64 gone],.buf 5 .u8 w wc2,.bufA 79 3 n0 (fun m=>[.int .u8 (x0 m),.int .u8 (y0 m),.int .u16 (z0 m)]) j0,.bufA 79 3 n1 (fun m=>[.int .u8 (x1 m),.int .u8 (y1 m),.int .u16 (z1 m)]) j1,.bufA 79 3 n2 (fun m=>[.int .u8 (x2 m),.int .u8 (y2 m),.int .u16 (z2 m)]) j2,.buf 5 .u8 out oc2] (fun v H R=>∃d e a' b' c',jV a b c lits 1=(d,e,a',b',c')∧v=.tup [.int .i64 d,.int .i64 e]∧R=[]∧H=[.one 107 [.slice 1 .z 1 wl wc,.slice 2 .z 3 n0 k0,.slice 3 .z 3 n1 k1,.slice 4 .z 3 n2 k2,.int .i64 a',.int .i64 b',.int .i64 c',.int .u64 win,.int .i64 most,.int .u64 siz,.bool told,.bool sm,.int .u64 skip,.slice 5 .z 1 ol oc,.int .i64 gone],.buf 5 .u8 w wc2,.bufA 79 3 n0 (fun m=>[.int .u8 (x0 m),.int .u8 (y0 m),.int .u16 (z0 m)]) j0,.bufA 79 3 n1 (fun m=>[.int .u8 (x1 m),.int .u8 (y1 m),.int .u16 (z1 m)]) j1,.bufA 79 3 n2 (fun m=>[.int .u8 (x2 m),.int .u8 (y2 m),.int .u16 (z2 m)]) j2,.buf 5 .u8 out oc2]):=by
 have hv1:∀d,dOf a b c (kOf lits 1)=d→d<1→jV a b c lits 1=(0,11,a,b,c):=fun d h1 h2=>by unfold jV;rw[if_neg (by decide),if_neg (by decide),h1,if_pos h2]
 have hv2:∀d,dOf a b c (kOf lits 1)=d→¬d<1→jV a b c lits 1=(d,0,d,if kOf lits 1=0 then b else a,if kOf lits 1≤1 then c else b):=fun d h1 h2=>by unfold jV;rw[if_neg (by decide),if_neg (by decide),h1,if_neg h2]
 have hk0:lits=0→kOf lits 1=1:=fun h=>by unfold kOf;rw[if_pos h]
 have hk1:¬lits=0→kOf lits 1=0:=fun h=>by unfold kOf;rw[if_neg h];rfl
 generalize jV a b c lits 1=V at *;generalize kOf lits 1=KK at *;obtain⟨am,ham'⟩:∃x,x=bV .sub .i64 a 1:=⟨_,rfl⟩;by_cases hz:lits=0
 ·have hk:=hk0 hz;rw[hk] at hv1 hv2;have hv1:=hv1 b rfl;have hv2:=hv2 b rfl;clear hk0 hk1;by_cases hd:b<1
  ·have hv:=hv1 hd;refine kf (kw 6 (by simp) (kg (kc kj kc8 ?_)))
   intro vb vc vw vtoN vofN vaddN vsubN vmaxI vminI vcutN vgd vst vln vrep vsub vonto vsplice vstrEq vbyteV vnotB veqB hw qb qc qw qtoN qofN qaddN qsubN qmaxI qminI qcutN qgd qst qln qrep qsub qonto qsplice qstrEq qbyteV qnotB qeqB;have hm:=kj;generalize Try.prog=P at *;have ham:=ham';rw[←qb] at ham;have h0:vc .eql lits 0=true:=by rw[qc,kt];exact hz
   have h1:vc .lss b 1=true:=by rw[qc,ko];exact hd
   cbv;rw[h0];cbv;(repeat refine And.intro ⟨by decide⟩ ?_);try rw[←ham]
   rw[h1];cbv;exact⟨0,11,a,b,c,hv,rfl,rfl,rfl⟩
  ·have hv:V=(b,0,b,a,c):=hv2 hd;refine kf (kw 6 (by simp) (kg (kc kj kc8 ?_)))
   intro vb vc vw vtoN vofN vaddN vsubN vmaxI vminI vcutN vgd vst vln vrep vsub vonto vsplice vstrEq vbyteV vnotB veqB hw qb qc qw qtoN qofN qaddN qsubN qmaxI qminI qcutN qgd qst qln qrep qsub qonto qsplice qstrEq qbyteV qnotB qeqB;have hm:=kj;generalize Try.prog=P at *;have ham:=ham';rw[←qb] at ham;have h0:vc .eql lits 0=true:=by rw[qc,kt];exact hz
   have h1:vc .lss b 1=false:=by rw[qc,km];exact hd
   cbv;rw[h0];cbv;(repeat refine And.intro ⟨by decide⟩ ?_);try rw[←ham]
   rw[h1];cbv;refine WX.unr 4 hw hm ?_
   cbv;(repeat refine And.intro ⟨by decide⟩ ?_);exact⟨b,0,b,a,c,hv,rfl,rfl,rfl⟩
 ·have hk:=hk1 hz;rw[hk] at hv1 hv2;have hv1:=hv1 a rfl;have hv2:=hv2 a rfl;clear hk0 hk1;by_cases hd:a<1
  ·have hv:=hv1 hd;refine kf (kw 6 (by simp) (kg (kc kj kc8 ?_)))
   intro vb vc vw vtoN vofN vaddN vsubN vmaxI vminI vcutN vgd vst vln vrep vsub vonto vsplice vstrEq vbyteV vnotB veqB hw qb qc qw qtoN qofN qaddN qsubN qmaxI qminI qcutN qgd qst qln qrep qsub qonto qsplice qstrEq qbyteV qnotB qeqB;have hm:=kj;generalize Try.prog=P at *;have ham:=ham';rw[←qb] at ham;have h0:vc .eql lits 0=false:=by rw[qc,kh];exact hz
   have h1:vc .lss a 1=true:=by rw[qc,ko];exact hd
   cbv;rw[h0];cbv;(repeat refine And.intro ⟨by decide⟩ ?_);try rw[←ham]
   rw[h1];cbv;exact⟨0,11,a,b,c,hv,rfl,rfl,rfl⟩
  ·have hv:V=(a,0,a,b,c):=hv2 hd;refine kf (kw 6 (by simp) (kg (kc kj kc8 ?_)))
   intro _ vc _ _ _ _ _ _ _ _ _ _ _ _ _ _ _ _ _ _ _ hw qb qc _ _ _ _ _ _ _ _ _ _ _ _ _ _ _ _ _ _ _;have hm:=kj;generalize Try.prog=P at *;have ham:=ham';rw[←qb] at ham;have h0:vc .eql lits 0=false:=by rw[qc,kh];exact hz
   have h1:vc .lss a 1=false:=by rw[qc,km];exact hd
   cbv;rw[h0];cbv;(repeat refine And.intro ⟨by decide⟩ ?_);try rw[←ham]
   rw[h1];cbv;refine WX.unr 4 hw hm ?_
   cbv;(repeat refine And.intro ⟨by decide⟩ ?_);exact⟨a,0,a,b,c,hv,rfl,rfl,rfl⟩
theorem knU (a b c lits:Int) (w out:List Int) (wl wc wc2 n0 n1 n2 k0 k1 k2 j0 j1 j2 ol oc oc2:Nat) (x0 y0 z0 x1 y1 z1 x2 y2 z2:Nat→Int) (win most siz skip gone:Int) (told sm:Bool):Con Try.prog 32 [.ptr 0 .z 15 4,.int .i64 lits,.lit .i64 2] [.one 107 [.slice 1 .z 1 wl wc,.slice 2 .z 3 n0 k0,.slice 3 .z 3 n1 k1,.slice 4 .z 3 n2 k2,.int .i64 a,.int .i64 b,.int .i64 c,.int .u64 win,.int .i64 most,.int .u64 siz,.bool told,.bool sm,.int .u64 skip,.slice 5 .z 1 ol oc,.int .i64 gone],.buf 5 .u8 w wc2,.bufA 79 3 n0 (fun m=>[.int .u8 (x0 m),.int .u8 (y0 m),.int .u16 (z0 m)]) j0,.bufA 79 3 n1 (fun m=>[.int .u8 (x1 m),.int .u8 (y1 m),.int .u16 (z1 m)]) j1,.bufA 79 3 n2 (fun m=>[.int .u8 (x2 m),.int .u8 (y2 m),.int .u16 (z2 m)]) j2,.buf 5 .u8 out oc2] (fun v H R=>∃d e a' b' c',jV a b c lits 2=(d,e,a',b',c')∧v=.tup [.int .i64 d,.int .i64 e]∧R=[]∧H=[.one 107 [.slice 1 .z 1 wl wc,.slice 2 .z 3 n0 k0,.slice 3 .z 3 n1 k1,.slice 4 .z 3 n2 k2,.int .i64 a',.int .i64 b',.int .i64 c',.int .u64 win,.int .i64 most,.int .u64 siz,.bool told,.bool sm,.int .u64 skip,.slice 5 .z 1 ol oc,.int .i64 gone],.buf 5 .u8 w wc2,.bufA 79 3 n0 (fun m=>[.int .u8 (x0 m),.int .u8 (y0 m),.int .u16 (z0 m)]) j0,.bufA 79 3 n1 (fun m=>[.int .u8 (x1 m),.int .u8 (y1 m),.int .u16 (z1 m)]) j1,.bufA 79 3 n2 (fun m=>[.int .u8 (x2 m),.int .u8 (y2 m),.int .u16 (z2 m)]) j2,.buf 5 .u8 out oc2]):=by
 have hv1:∀d,dOf a b c (kOf lits 2)=d→d<1→jV a b c lits 2=(0,11,a,b,c):=fun d h1 h2=>by unfold jV;rw[if_neg (by decide),if_neg (by decide),h1,if_pos h2]
 have hv2:∀d,dOf a b c (kOf lits 2)=d→¬d<1→jV a b c lits 2=(d,0,d,if kOf lits 2=0 then b else a,if kOf lits 2≤1 then c else b):=fun d h1 h2=>by unfold jV;rw[if_neg (by decide),if_neg (by decide),h1,if_neg h2]
 have hk0:lits=0→kOf lits 2=2:=fun h=>by unfold kOf;rw[if_pos h]
 have hk1:¬lits=0→kOf lits 2=1:=fun h=>by unfold kOf;rw[if_neg h];rfl
 generalize jV a b c lits 2=V at *;generalize kOf lits 2=KK at *;obtain⟨am,ham'⟩:∃x,x=bV .sub .i64 a 1:=⟨_,rfl⟩;by_cases hz:lits=0
 ·have hk:=hk0 hz;rw[hk] at hv1 hv2;have hv1:=hv1 c rfl;have hv2:=hv2 c rfl;clear hk0 hk1;by_cases hd:c<1
  ·have hv:=hv1 hd;refine kf (kw 6 (by simp) (kg (kc kj kc8 ?_)))
   intro vb vc vw vtoN vofN vaddN vsubN vmaxI vminI vcutN vgd vst vln vrep vsub vonto vsplice vstrEq vbyteV vnotB veqB hw qb qc qw qtoN qofN qaddN qsubN qmaxI qminI qcutN qgd qst qln qrep qsub qonto qsplice qstrEq qbyteV qnotB qeqB;have hm:=kj;generalize Try.prog=P at *;have ham:=ham';rw[←qb] at ham;have h0:vc .eql lits 0=true:=by rw[qc,kt];exact hz
   have h1:vc .lss c 1=true:=by rw[qc,ko];exact hd
   cbv;rw[h0];cbv;(repeat refine And.intro ⟨by decide⟩ ?_);try rw[←ham]
   rw[h1];cbv;exact⟨0,11,a,b,c,hv,rfl,rfl,rfl⟩
  ·have hv:V=(c,0,c,a,b):=hv2 hd;refine kf (kw 6 (by simp) (kg (kc kj kc8 ?_)))
   intro vb vc vw vtoN vofN vaddN vsubN vmaxI vminI vcutN vgd vst vln vrep vsub vonto vsplice vstrEq vbyteV vnotB veqB hw qb qc qw qtoN qofN qaddN qsubN qmaxI qminI qcutN qgd qst qln qrep qsub qonto qsplice qstrEq qbyteV qnotB qeqB;have hm:=kj;generalize Try.prog=P at *;have ham:=ham';rw[←qb] at ham;have h0:vc .eql lits 0=true:=by rw[qc,kt];exact hz
   have h1:vc .lss c 1=false:=by rw[qc,km];exact hd
   cbv;rw[h0];cbv;(repeat refine And.intro ⟨by decide⟩ ?_);try rw[←ham]
   rw[h1];cbv;refine WX.unr 4 hw hm ?_
   cbv;(repeat refine And.intro ⟨by decide⟩ ?_);exact⟨c,0,c,a,b,hv,rfl,rfl,rfl⟩
 ·have hk:=hk1 hz;rw[hk] at hv1 hv2;have hv1:=hv1 b rfl;have hv2:=hv2 b rfl;clear hk0 hk1;by_cases hd:b<1
  ·have hv:=hv1 hd;refine kf (kw 6 (by simp) (kg (kc kj kc8 ?_)))
   intro vb vc vw vtoN vofN vaddN vsubN vmaxI vminI vcutN vgd vst vln vrep vsub vonto vsplice vstrEq vbyteV vnotB veqB hw qb qc qw qtoN qofN qaddN qsubN qmaxI qminI qcutN qgd qst qln qrep qsub qonto qsplice qstrEq qbyteV qnotB qeqB;have hm:=kj;generalize Try.prog=P at *;have ham:=ham';rw[←qb] at ham;have h0:vc .eql lits 0=false:=by rw[qc,kh];exact hz
   have h1:vc .lss b 1=true:=by rw[qc,ko];exact hd
   cbv;rw[h0];cbv;(repeat refine And.intro ⟨by decide⟩ ?_);try rw[←ham]
   rw[h1];cbv;exact⟨0,11,a,b,c,hv,rfl,rfl,rfl⟩
  ·have hv:V=(b,0,b,a,c):=hv2 hd;refine kf (kw 6 (by simp) (kg (kc kj kc8 ?_)))
   intro _ vc _ _ _ _ _ _ _ _ _ _ _ _ _ _ _ _ _ _ _ hw qb qc _ _ _ _ _ _ _ _ _ _ _ _ _ _ _ _ _ _ _;have hm:=kj;generalize Try.prog=P at *;have ham:=ham';rw[←qb] at ham;have h0:vc .eql lits 0=false:=by rw[qc,kh];exact hz
   have h1:vc .lss b 1=false:=by rw[qc,km];exact hd
   cbv;rw[h0];cbv;(repeat refine And.intro ⟨by decide⟩ ?_);try rw[←ham]
   rw[h1];cbv;refine WX.unr 4 hw hm ?_
   cbv;(repeat refine And.intro ⟨by decide⟩ ?_);exact⟨b,0,b,a,c,hv,rfl,rfl,rfl⟩
theorem knV (a b c lits:Int) (w out:List Int) (wl wc wc2 n0 n1 n2 k0 k1 k2 j0 j1 j2 ol oc oc2:Nat) (x0 y0 z0 x1 y1 z1 x2 y2 z2:Nat→Int) (win most siz skip gone:Int) (told sm:Bool):Con Try.prog 32 [.ptr 0 .z 15 4,.int .i64 lits,.lit .i64 3] [.one 107 [.slice 1 .z 1 wl wc,.slice 2 .z 3 n0 k0,.slice 3 .z 3 n1 k1,.slice 4 .z 3 n2 k2,.int .i64 a,.int .i64 b,.int .i64 c,.int .u64 win,.int .i64 most,.int .u64 siz,.bool told,.bool sm,.int .u64 skip,.slice 5 .z 1 ol oc,.int .i64 gone],.buf 5 .u8 w wc2,.bufA 79 3 n0 (fun m=>[.int .u8 (x0 m),.int .u8 (y0 m),.int .u16 (z0 m)]) j0,.bufA 79 3 n1 (fun m=>[.int .u8 (x1 m),.int .u8 (y1 m),.int .u16 (z1 m)]) j1,.bufA 79 3 n2 (fun m=>[.int .u8 (x2 m),.int .u8 (y2 m),.int .u16 (z2 m)]) j2,.buf 5 .u8 out oc2] (fun v H R=>∃d e a' b' c',jV a b c lits 3=(d,e,a',b',c')∧v=.tup [.int .i64 d,.int .i64 e]∧R=[]∧H=[.one 107 [.slice 1 .z 1 wl wc,.slice 2 .z 3 n0 k0,.slice 3 .z 3 n1 k1,.slice 4 .z 3 n2 k2,.int .i64 a',.int .i64 b',.int .i64 c',.int .u64 win,.int .i64 most,.int .u64 siz,.bool told,.bool sm,.int .u64 skip,.slice 5 .z 1 ol oc,.int .i64 gone],.buf 5 .u8 w wc2,.bufA 79 3 n0 (fun m=>[.int .u8 (x0 m),.int .u8 (y0 m),.int .u16 (z0 m)]) j0,.bufA 79 3 n1 (fun m=>[.int .u8 (x1 m),.int .u8 (y1 m),.int .u16 (z1 m)]) j1,.bufA 79 3 n2 (fun m=>[.int .u8 (x2 m),.int .u8 (y2 m),.int .u16 (z2 m)]) j2,.buf 5 .u8 out oc2]):=by
 have hv1:∀d,dOf a b c (kOf lits 3)=d→d<1→jV a b c lits 3=(0,11,a,b,c):=fun d h1 h2=>by unfold jV;rw[if_neg (by decide),if_neg (by decide),h1,if_pos h2]
 have hv2:∀d,dOf a b c (kOf lits 3)=d→¬d<1→jV a b c lits 3=(d,0,d,if kOf lits 3=0 then b else a,if kOf lits 3≤1 then c else b):=fun d h1 h2=>by unfold jV;rw[if_neg (by decide),if_neg (by decide),h1,if_neg h2]
 have hk0:lits=0→kOf lits 3=3:=fun h=>by unfold kOf;rw[if_pos h]
 have hk1:¬lits=0→kOf lits 3=2:=fun h=>by unfold kOf;rw[if_neg h];rfl
 generalize jV a b c lits 3=V at *;generalize kOf lits 3=KK at *;obtain⟨am,ham'⟩:∃x,x=bV .sub .i64 a 1:=⟨_,rfl⟩;by_cases hz:lits=0
 ·have hk:=hk0 hz;rw[hk] at hv1 hv2;have hv1:=hv1 am (show bV .sub .i64 a 1=am from ham'.symm);have hv2:=hv2 am (show bV .sub .i64 a 1=am from ham'.symm);clear hk0 hk1;by_cases hd:am<1
  ·have hv:=hv1 hd;refine kf (kw 6 (by simp) (kg (kc kj kc8 ?_)))
   intro vb vc vw vtoN vofN vaddN vsubN vmaxI vminI vcutN vgd vst vln vrep vsub vonto vsplice vstrEq vbyteV vnotB veqB hw qb qc qw qtoN qofN qaddN qsubN qmaxI qminI qcutN qgd qst qln qrep qsub qonto qsplice qstrEq qbyteV qnotB qeqB;have hm:=kj;generalize Try.prog=P at *;have ham:=ham';rw[←qb] at ham;have h0:vc .eql lits 0=true:=by rw[qc,kt];exact hz
   have h1:vc .lss am 1=true:=by rw[qc,ko];exact hd
   cbv;rw[h0];cbv;(repeat refine And.intro ⟨by decide⟩ ?_);try rw[←ham]
   rw[h1];cbv;exact⟨0,11,a,b,c,hv,rfl,rfl,rfl⟩
  ·have hv:V=(am,0,am,a,b):=hv2 hd;refine kf (kw 6 (by simp) (kg (kc kj kc8 ?_)))
   intro vb vc vw vtoN vofN vaddN vsubN vmaxI vminI vcutN vgd vst vln vrep vsub vonto vsplice vstrEq vbyteV vnotB veqB hw qb qc qw qtoN qofN qaddN qsubN qmaxI qminI qcutN qgd qst qln qrep qsub qonto qsplice qstrEq qbyteV qnotB qeqB;have hm:=kj;generalize Try.prog=P at *;have ham:=ham';rw[←qb] at ham;have h0:vc .eql lits 0=true:=by rw[qc,kt];exact hz
   have h1:vc .lss am 1=false:=by rw[qc,km];exact hd
   cbv;rw[h0];cbv;(repeat refine And.intro ⟨by decide⟩ ?_);try rw[←ham]
   rw[h1];cbv;refine WX.unr 4 hw hm ?_
   cbv;(repeat refine And.intro ⟨by decide⟩ ?_);exact⟨am,0,am,a,b,hv,rfl,rfl,rfl⟩
 ·have hk:=hk1 hz;rw[hk] at hv1 hv2;have hv1:=hv1 c rfl;have hv2:=hv2 c rfl;clear hk0 hk1;by_cases hd:c<1
  ·have hv:=hv1 hd;refine kf (kw 6 (by simp) (kg (kc kj kc8 ?_)))
   intro vb vc vw vtoN vofN vaddN vsubN vmaxI vminI vcutN vgd vst vln vrep vsub vonto vsplice vstrEq vbyteV vnotB veqB hw qb qc qw qtoN qofN qaddN qsubN qmaxI qminI qcutN qgd qst qln qrep qsub qonto qsplice qstrEq qbyteV qnotB qeqB;have hm:=kj;generalize Try.prog=P at *;have ham:=ham';rw[←qb] at ham;have h0:vc .eql lits 0=false:=by rw[qc,kh];exact hz
   have h1:vc .lss c 1=true:=by rw[qc,ko];exact hd
   cbv;rw[h0];cbv;(repeat refine And.intro ⟨by decide⟩ ?_);try rw[←ham]
   rw[h1];cbv;exact⟨0,11,a,b,c,hv,rfl,rfl,rfl⟩
  ·have hv:V=(c,0,c,a,b):=hv2 hd;refine kf (kw 6 (by simp) (kg (kc kj kc8 ?_)))
   intro _ vc _ _ _ _ _ _ _ _ _ _ _ _ _ _ _ _ _ _ _ hw qb qc _ _ _ _ _ _ _ _ _ _ _ _ _ _ _ _ _ _ _;have hm:=kj;generalize Try.prog=P at *;have ham:=ham';rw[←qb] at ham;have h0:vc .eql lits 0=false:=by rw[qc,kh];exact hz
   have h1:vc .lss c 1=false:=by rw[qc,km];exact hd
   cbv;rw[h0];cbv;(repeat refine And.intro ⟨by decide⟩ ?_);try rw[←ham]
   rw[h1];cbv;refine WX.unr 4 hw hm ?_
   cbv;(repeat refine And.intro ⟨by decide⟩ ?_);exact⟨c,0,c,a,b,hv,rfl,rfl,rfl⟩
set_option maxHeartbeats 4000000
theorem kqI (a b c lits back:Int) (w out:List Int) (wl wc wc2 n0 n1 n2 k0 k1 k2 j0 j1 j2 ol oc oc2:Nat) (x0 y0 z0 x1 y1 z1 x2 y2 z2:Nat→Int) (win most siz skip gone:Int) (told sm:Bool):Con Try.prog 32 [.ptr 0 .z 15 4,.int .i64 lits,.int .i64 back] [.one 107 [.slice 1 .z 1 wl wc,.slice 2 .z 3 n0 k0,.slice 3 .z 3 n1 k1,.slice 4 .z 3 n2 k2,.int .i64 a,.int .i64 b,.int .i64 c,.int .u64 win,.int .i64 most,.int .u64 siz,.bool told,.bool sm,.int .u64 skip,.slice 5 .z 1 ol oc,.int .i64 gone],.buf 5 .u8 w wc2,.bufA 79 3 n0 (fun m=>[.int .u8 (x0 m),.int .u8 (y0 m),.int .u16 (z0 m)]) j0,.bufA 79 3 n1 (fun m=>[.int .u8 (x1 m),.int .u8 (y1 m),.int .u16 (z1 m)]) j1,.bufA 79 3 n2 (fun m=>[.int .u8 (x2 m),.int .u8 (y2 m),.int .u16 (z2 m)]) j2,.buf 5 .u8 out oc2] (fun v H R=>∃d e a' b' c',jV a b c lits back=(d,e,a',b',c')∧v=.tup [.int .i64 d,.int .i64 e]∧R=[]∧H=[.one 107 [.slice 1 .z 1 wl wc,.slice 2 .z 3 n0 k0,.slice 3 .z 3 n1 k1,.slice 4 .z 3 n2 k2,.int .i64 a',.int .i64 b',.int .i64 c',.int .u64 win,.int .i64 most,.int .u64 siz,.bool told,.bool sm,.int .u64 skip,.slice 5 .z 1 ol oc,.int .i64 gone],.buf 5 .u8 w wc2,.bufA 79 3 n0 (fun m=>[.int .u8 (x0 m),.int .u8 (y0 m),.int .u16 (z0 m)]) j0,.bufA 79 3 n1 (fun m=>[.int .u8 (x1 m),.int .u8 (y1 m),.int .u16 (z1 m)]) j1,.bufA 79 3 n2 (fun m=>[.int .u8 (x2 m),.int .u8 (y2 m),.int .u16 (z2 m)]) j2,.buf 5 .u8 out oc2]):=by
 by_cases h1:back<1
 ·exact kl9 a b c lits back w out wl wc wc2 n0 n1 n2 k0 k1 k2 j0 j1 j2 ol oc oc2 x0 y0 z0 x1 y1 z1 x2 y2 z2 win most siz skip gone told sm h1
 by_cases h2:3<back
 ·exact kma a b c lits back w out wl wc wc2 n0 n1 n2 k0 k1 k2 j0 j1 j2 ol oc oc2 x0 y0 z0 x1 y1 z1 x2 y2 z2 win most siz skip gone told sm h2
 rcases(by omega:back=1∨back=2∨back=3) with rfl|rfl|rfl
 ·exact kfq [.ptr 0 .z 15 4,.int .i64 lits,.lit .i64 1] (fun σ=>rfl) (knT a b c lits w out wl wc wc2 n0 n1 n2 k0 k1 k2 j0 j1 j2 ol oc oc2 x0 y0 z0 x1 y1 z1 x2 y2 z2 win most siz skip gone told sm)
 ·exact kfq [.ptr 0 .z 15 4,.int .i64 lits,.lit .i64 2] (fun σ=>rfl) (knU a b c lits w out wl wc wc2 n0 n1 n2 k0 k1 k2 j0 j1 j2 ol oc oc2 x0 y0 z0 x1 y1 z1 x2 y2 z2 win most siz skip gone told sm)
 ·exact kfq [.ptr 0 .z 15 4,.int .i64 lits,.lit .i64 3] (fun σ=>rfl) (knV a b c lits w out wl wc wc2 n0 n1 n2 k0 k1 k2 j0 j1 j2 ol oc oc2 x0 y0 z0 x1 y1 z1 x2 y2 z2 win most siz skip gone told sm)
set_option maxHeartbeats 40000000
theorem krL {A B:Prop} (G Fc:(Nat→Nat→Value)→List (Int×Int×Int)→Nat→Nat→Nat→(Nat→Int)→(Nat→Int)→(Nat→Int)→(Nat→Int)→(Nat→Int)→(Nat→Int)→(Nat→Int)→(Nat→Int)→(Nat→Int)→Nat→Nat→Nat→Nat→Nat→Nat→Nat→Nat→Nat→(Nat→Int)→(Nat→Int)→(Nat→Int)→Prop)
  (h1:(∀js LS N0 N1 N2 X0 Y0 Z0 X1 Y1 Z1 X2 Y2 Z2 ll cl kl m0 m1 m2 i0 i1 i2 f g h,Fc js LS N0 N1 N2 X0 Y0 Z0 X1 Y1 Z1 X2 Y2 Z2 ll cl kl m0 m1 m2 i0 i1 i2 f g h→G js LS N0 N1 N2 X0 Y0 Z0 X1 Y1 Z1 X2 Y2 Z2 ll cl kl m0 m1 m2 i0 i1 i2 f g h)→A) (h2:(∀js LS N0 N1 N2 X0 Y0 Z0 X1 Y1 Z1 X2 Y2 Z2 ll cl kl m0 m1 m2 i0 i1 i2 f g h,Fc js LS N0 N1 N2 X0 Y0 Z0 X1 Y1 Z1 X2 Y2 Z2 ll cl kl m0 m1 m2 i0 i1 i2 f g h→G js LS N0 N1 N2 X0 Y0 Z0 X1 Y1 Z1 X2 Y2 Z2 ll cl kl m0 m1 m2 i0 i1 i2 f g h)→B) (h:∀js LS N0 N1 N2 X0 Y0 Z0 X1 Y1 Z1 X2 Y2 Z2 ll cl kl m0 m1 m2 i0 i1 i2 f g h,Fc js LS N0 N1 N2 X0 Y0 Z0 X1 Y1 Z1 X2 Y2 Z2 ll cl kl m0 m1 m2 i0 i1 i2 f g h→G js LS N0 N1 N2 X0 Y0 Z0 X1 Y1 Z1 X2 Y2 Z2 ll cl kl m0 m1 m2 i0 i1 i2 f g h):A∧B:=⟨h1 h,h2 h⟩
theorem kpw (PT:SV→List SB→List Nat→Prop) (w out q:List Int) (wl wc wc2 n0 n1 n2 k0 k1 k2 j0 j1 j2 ol oc oc2 ql cq:Nat) (x0 y0 z0 x1 y1 z1 x2 y2 z2:Nat→Int) (a b c win most siz skip gone:Int) (told sm:Bool) (hq8:∀x∈q,kF x) (hql:ql=q.length) (hqc:ql≤cq) (hqm:cq≤140737488355328) (hF:kcp ⟨w,⟨n0,x0,y0,z0⟩,⟨n1,x1,y1,z1⟩,⟨n2,x2,y2,z2⟩,a,b,c,out⟩) (hwl:wl=w.length) (hol:ol=out.length) (hoc:ol≤oc) (hoc2:oc≤oc2) (hout:ol≤100000000) (hmost:0≤most∧most≤131072)
  (hE:kdn win most q ⟨w,⟨n0,x0,y0,z0⟩,⟨n1,x1,y1,z1⟩,⟨n2,x2,y2,z2⟩,a,b,c,out⟩=none→∀(u0 u1 u2 u3:Value) (W OUT:List Int) (WC2 N0 N1 N2 J0 J1 J2 OL OC OC2:Nat) (X0 Y0 Z0 X1 Y1 Z1 X2 Y2 Z2:Nat→Int) (A B C:Int),ol≤OC→PT (.int .i64 11) [.one 107 [.val u0,.val u1,.val u2,.val u3,.int .i64 A,.int .i64 B,.int .i64 C,.int .u64 win,.int .i64 most,.int .u64 siz,.bool told,.bool sm,.int .u64 skip,.slice 5 .z 1 OL OC,.int .i64 gone],.buf 5 .u8 W WC2,.bufA 79 3 N0 (fun m=>[.int .u8 (X0 m),.int .u8 (Y0 m),.int .u16 (Z0 m)]) J0,.bufA 79 3 N1 (fun m=>[.int .u8 (X1 m),.int .u8 (Y1 m),.int .u16 (Z1 m)]) J1,.bufA 79 3 N2 (fun m=>[.int .u8 (X2 m),.int .u8 (Y2 m),.int .u16 (Z2 m)]) J2,.buf 5 .u8 OUT OC2,.ro .u8 q] [1,2,3,4,5])
  (hG:∀(W OUT:List Int) (WL WC WC2 N0 N1 N2 K0 K1 K2 J0 J1 J2 OL OC OC2:Nat) (X0 Y0 Z0 X1 Y1 Z1 X2 Y2 Z2:Nat→Int) (A B C:Int),kdn win most q ⟨w,⟨n0,x0,y0,z0⟩,⟨n1,x1,y1,z1⟩,⟨n2,x2,y2,z2⟩,a,b,c,out⟩=some ⟨W,⟨N0,X0,Y0,Z0⟩,⟨N1,X1,Y1,Z1⟩,⟨N2,X2,Y2,Z2⟩,A,B,C,OUT⟩→WL=W.length→OL=OUT.length→OL≤OC→OC≤OC2→ol≤OL→PT (.int .i64 0) [.one 107 [.slice 1 .z 1 WL WC,.slice 2 .z 3 N0 K0,.slice 3 .z 3 N1 K1,.slice 4 .z 3 N2 K2,.int .i64 A,.int .i64 B,.int .i64 C,.int .u64 win,.int .i64 most,.int .u64 siz,.bool told,.bool sm,.int .u64 skip,.slice 5 .z 1 OL OC,.int .i64 gone],.buf 5 .u8 W WC2,.bufA 79 3 N0 (fun m=>[.int .u8 (X0 m),.int .u8 (Y0 m),.int .u16 (Z0 m)]) J0,.bufA 79 3 N1 (fun m=>[.int .u8 (X1 m),.int .u8 (Y1 m),.int .u16 (Z1 m)]) J1,.bufA 79 3 N2 (fun m=>[.int .u8 (X2 m),.int .u8 (Y2 m),.int .u16 (Z2 m)]) J2,.buf 5 .u8 OUT OC2,.ro .u8 q] [1,2,3,4,5]) :
  Con Try.prog 124 [.ptr 0 .z 15 0,.slice 6 .z 1 ql cq] [.one 107 [.slice 1 .z 1 wl wc,.slice 2 .z 3 n0 k0,.slice 3 .z 3 n1 k1,.slice 4 .z 3 n2 k2,.int .i64 a,.int .i64 b,.int .i64 c,.int .u64 win,.int .i64 most,.int .u64 siz,.bool told,.bool sm,.int .u64 skip,.slice 5 .z 1 ol oc,.int .i64 gone],.buf 5 .u8 w wc2,.bufA 79 3 n0 (fun m=>[.int .u8 (x0 m),.int .u8 (y0 m),.int .u16 (z0 m)]) j0,.bufA 79 3 n1 (fun m=>[.int .u8 (x1 m),.int .u8 (y1 m),.int .u16 (z1 m)]) j1,.bufA 79 3 n2 (fun m=>[.int .u8 (x2 m),.int .u8 (y2 m),.int .u16 (z2 m)]) j2,.buf 5 .u8 out oc2,.ro .u8 q] PT:=by
 obtain⟨PK,hPK⟩:∃x,x=kdn win most q ⟨w,⟨n0,x0,y0,z0⟩,⟨n1,x1,y1,z1⟩,⟨n2,x2,y2,z2⟩,a,b,c,out⟩:=⟨_,rfl⟩;rw[←hPK] at hE hG;have hlit:=knC q w cq wc wc2 most hq8 hF.w8 (by omega) (by have:=hF.wl;simp only at this;omega) (by omega) (by omega);have hlf:=fun L l u=>@kfK q w L l most u hq8 hF.w8 hF.wl
 rw[←hwl,←hql] at hlit;rw[←hql] at hlf;have hrd0:=fun(un:Nat) (hun:un≤ql)=>kpo (q.drop un) (cq-un) k0 k1 k2 j0 j1 j2 ⟨n0,x0,y0,z0⟩ ⟨n1,x1,y1,z1⟩ ⟨n2,x2,y2,z2⟩ (fun x hx=>jJ hq8 x (List.mem_of_mem_drop hx)) (by rw[List.length_drop];omega) hF.t0 hF.t1 hF.t2
 have hval:=@kqI;unfold bfT at hrd0;dsimp only at hrd0
 refine kf (j3 0 [0,1,2,3] (kw 7 (by simp) (ju [1,2,3,4,5] (kg (kc kj krb ?_)))))
 intro vb vc vw vtoN vofN vaddN vsubN _ _ vcutN vgd _ vln _ vsub vonto _ _ _ _ _ hw qb qc qw qtoN qofN qaddN qsubN _ _ qcutN qgd _ qln _ qsub qonto _ _ _ _ _;have hm:=kj;generalize Try.prog=P at *;cbv;refine klq [.slice 6 .z 1 ql cq,.slice 1 .z 1 wl wc,.int .i64 most] 24 3 (fun _=>[.int .i64 0,.int .i64 0,.int .i64 0]) (by cbv;(repeat' first|(refine And.intro ?_ ?_)|exact trivial|exact⟨Nat.le_refl _⟩|exact kb _|exact fun _=>rfl|(simp only[renL3];done)|(show SB.roA _ _ _=SB.roA _ _ _;rfl)|exact funext fun _=>rfl)) (by rfl) (fun σ=>rfl) ?_
 refine ka (ρ:=[(6,.z),(1,.z)]) hlit ⟨by rfl,by rfl,by rfl,by cbv;(repeat' first|(refine And.intro ?_ ?_)|exact trivial|exact⟨Nat.le_refl _⟩|exact kb _|exact fun _=>rfl|(simp only[renL3];done)|(show SB.roA _ _ _=SB.roA _ _ _;rfl)|exact funext fun _=>rfl)⟩ ?_
 rintro v H R js ⟨rfl,e,L,l,u,hLR,⟨e',he',rfl,rfl,rfl⟩|⟨rfl,LL,n,lc,lc2,ld,ld2,hn,hnL,hnc,hLt,rfl,rfl⟩⟩
 ·have hPn:PK=none:=by rw[hPK];unfold kdn;simp only[hLR];rw[if_pos he']
  have hne:vc .neq e 0=true:=by rw[qc,kz];exact he'
  cbv;(repeat refine And.intro (fun _=>rfl) ?_);rw[hne];cbv;(repeat refine And.intro (fun _=>rfl) ?_);exact .inr (fun js=>hE hPn _ _ _ _ _ _ _ _ _ _ _ _ _ _ _ _ _ _ _ _ _ _ _ _ _ _ _ _ hoc)
 ·have hPK1:PK=match qj (q.drop u.toNat) ⟨n0,x0,y0,z0⟩ ⟨n1,x1,y1,z1⟩ ⟨n2,x2,y2,z2⟩ with
   |(e,LS,T0,T1,T2)=>if e≠0 then none else kpm (out.length+most) l T0 T1 T2 (kdY win (out.length+most) LS (out,L,a,b,c) LS.length):=by
   rw[hPK];unfold kdn;simp only[hLR];rfl
  obtain⟨lf0,lf1,lf2,lf3,lf4⟩:=(show 0≤u∧u≤(ql:Int)∧L.length≤1000000∧(∀c∈l,kF c)∧l.length≤1000000 from hlf L l u hLR);refine Exists.elim (k9 l.length) (fun wm hwm=>?_)
  rw[←hwm];refine Exists.elim (k9 u.toNat) (fun un hun=>?_)
  have tu:vtoN u=un:=by rw[qtoN];exact hun.symm
  refine Exists.elim (k9 (if cq=un then 0 else 0+un)) (fun o1 ho1=>?_)
  have c1:vcutN 0 un cq=o1:=by rw[qcutN];exact ho1.symm
  refine Exists.elim (k9 (ql-un)) (fun q1 hq1=>?_)
  have s1:vsubN ql un=q1:=by simp only[qsubN];exact hq1.symm
  refine Exists.elim (k9 (cq-un)) (fun cq1 hcq1=>?_)
  have s2:vsubN cq un=cq1:=by simp only[qsubN];exact hcq1.symm
  have h00:vc .neq 0 0=false:=by rw[qc,kQ];decide
  have hvw:qp o1 (q.drop un) q:=by rw[ho1];exact ka5 q un cq (by omega) (by omega)
  have hqd:(q.drop un).length=q1:=by rw[List.length_drop,hq1,hql]
  have hrd:=hrd0 un (by omega);rw[hqd,←hcq1] at hrd;rw[←hun] at hPK1;refine Exists.elim (kb3 (q.drop un)) (fun qd hqd'=>?_)
  rw[←hqd'] at hrd hvw hPK1;refine Exists.elim (⟨_,rfl⟩:∃PS,PS=PSq qd ⟨n0,x0,y0,z0⟩ ⟨n1,x1,y1,z1⟩ ⟨n2,x2,y2,z2⟩) (fun PS hPS=>?_)
  rw[←hPS] at hrd;have hiu:0≤u∧u≤(ql:Int):=⟨lf0,lf1⟩;cbv;(repeat refine And.intro (fun _=>rfl) ?_);rw[h00];cbv;rw[tu,c1,s1,s2];refine⟨⟨hiu⟩,?_⟩
  refine' krL _ (fun(js:Nat→Nat→Value) (LS:List (Int×Int×Int)) (N0 N1 N2:Nat) (X0 Y0 Z0 X1 Y1 Z1 X2 Y2 Z2:Nat→Int) (ll cl kl m0 m1 m2 i0 i1 i2:Nat) (f g h:Nat→Int)=>qj qd ⟨n0,x0,y0,z0⟩ ⟨n1,x1,y1,z1⟩ ⟨n2,x2,y2,z2⟩=(0,LS,⟨N0,X0,Y0,Z0⟩,⟨N1,X1,Y1,Z1⟩,⟨N2,X2,Y2,Z2⟩)∧ll=LS.length∧f=(fun m=>(LS.getD m (0,0,0)).1)∧g=(fun m=>(LS.getD m (0,0,0)).2.1)∧h=(fun m=>(LS.getD m (0,0,0)).2.2)) (fun key=>?_) (fun key=>?_) ?_
  rotate_left
  ·refine ka (ρ:=[(6,.n o1),(2,.z),(3,.z),(4,.z),(7,.z)]) hrd ⟨by rfl,by rfl,by rfl,by cbv;(repeat' first|(refine And.intro ?_ ?_)|exact trivial|exact hvw|exact fun _=>rfl|rfl)⟩ ?_
   rintro v H R js2 ⟨rfl,hP⟩;rw[hPS] at hP;obtain⟨LS,⟨N0,X0,Y0,Z0⟩,⟨N1,X1,Y1,Z1⟩,⟨N2,X2,Y2,Z2⟩,e,hS,⟨he,x,y,⟨M0,P0,Q0,R0⟩,⟨M1,P1,Q1,R1⟩,⟨M2,P2,Q2,R2⟩,i0,i1,i2,ll,kl,f,g,h,rfl,rfl,rfl,rfl⟩|⟨rfl,ll,cl,kl,m0,m1,m2,i0,i1,i2,f,g,h,h1,h2,h3,h4,rfl,rfl⟩⟩:=hP
   ·have hPn:PK=none:=by rw[hPK1,hS];exact if_pos he
    have hne:vc .neq e 0=true:=by rw[qc,kz];exact he
    cbv;(repeat refine And.intro (fun _=>rfl) ?_);simp only[renL3];rw[hne];cbv;(repeat refine And.intro (fun _=>rfl) ?_);exact .inr (fun js=>hE hPn _ _ _ _ _ _ _ _ _ _ _ _ _ _ _ _ _ _ _ _ _ _ _ _ _ _ _ _ hoc)

   ·cbv;(repeat refine And.intro (fun _=>rfl) ?_);simp only[renL3];exact key js2 LS N0 N1 N2 X0 Y0 Z0 X1 Y1 Z1 X2 Y2 Z2 ll cl kl m0 m1 m2 i0 i1 i2 f g h ⟨hS,h1,h2,h3,h4⟩
  ·(repeat refine And.intro (fun _=>rfl) ?_);refine ka (ρ:=[(6,.n o1),(2,.z),(3,.z),(4,.z),(7,.z)]) hrd ⟨by rfl,by rfl,by rfl,by cbv;(repeat' first|(refine And.intro ?_ ?_)|exact trivial|exact hvw|exact fun _=>rfl|rfl)⟩ ?_
   rintro v H R js2 ⟨rfl,hP⟩;rw[hPS] at hP;obtain⟨LS,⟨N0,X0,Y0,Z0⟩,⟨N1,X1,Y1,Z1⟩,⟨N2,X2,Y2,Z2⟩,e,hS,⟨he,x,y,⟨M0,P0,Q0,R0⟩,⟨M1,P1,Q1,R1⟩,⟨M2,P2,Q2,R2⟩,i0,i1,i2,ll,kl,f,g,h,rfl,rfl,rfl,rfl⟩|⟨rfl,ll,cl,kl,m0,m1,m2,i0,i1,i2,f,g,h,h1,h2,h3,h4,rfl,rfl⟩⟩:=hP
   ·have hPn:PK=none:=by rw[hPK1,hS];exact if_pos he
    have hne:vc .neq e 0=true:=by rw[qc,kz];exact he
    cbv;(repeat refine And.intro (fun _=>rfl) ?_);simp only[renL3];rw[hne];cbv;(repeat refine And.intro (fun _=>rfl) ?_);exact .inr (fun js=>hE hPn _ _ _ _ _ _ _ _ _ _ _ _ _ _ _ _ _ _ _ _ _ _ _ _ _ _ _ _ hoc)

   ·cbv;(repeat refine And.intro (fun _=>rfl) ?_);simp only[renL3];exact key js2 LS N0 N1 N2 X0 Y0 Z0 X1 Y1 Z1 X2 Y2 Z2 ll cl kl m0 m1 m2 i0 i1 i2 f g h ⟨hS,h1,h2,h3,h4⟩
  ·intro js LS N0 N1 N2 X0 Y0 Z0 X1 Y1 Z1 X2 Y2 Z2 ll cl kl m0 m1 m2 i0 i1 i2 f g h ⟨hS,hll,hf,hg,hh⟩
   have hro:=(kkz (fun x hx=>jJ hq8 x (by rw[hqd'] at hx;exact List.mem_of_mem_drop hx)) hF.t0 hF.t1 hF.t2 hS).1;refine Exists.elim (kX (ol:Int)) (fun oli holi=>?_)
   have ho0:vofN ol=oli:=by rw[qofN];exact holi.symm
   refine Exists.elim (kX (oli+most)) (fun M hM=>?_)
   have eM:vb .add .i64 oli most=M:=by rw[qb,hM];exact ku (by omega) (by omega)
   have hMr:(ol:Int)≤M∧M≤100131072:=by omega
   refine Exists.elim (kX (ll:Int)) (fun lli hlli=>?_)
   have oll:vofN ll=lli:=by rw[qofN];exact hlli.symm
   refine Exists.elim (⟨_,rfl⟩:∃SF,SF=kdY win M LS (out,L,a,b,c)) (fun SF hSF=>?_)
   have hSF0:SF 0=some (out,L,a,b,c):=by rw[hSF];rfl
   have hSFs:∀i s,SF i=some s→SF (i+1)=khm win M (LS.getD i (0,0,0)) s:=fun i s h=>by rw[hSF] at h ⊢;rw[kdY,h];rfl
   have hSFn:∀i,SF (i+1)=none→i<ll→SF ll=none:=fun i h h2=>by rw[hSF] at h ⊢;exact kl7 h h2
   have hPK2:PK=kpm M l ⟨N0,X0,Y0,Z0⟩ ⟨N1,X1,Y1,Z1⟩ ⟨N2,X2,Y2,Z2⟩ (SF ll):=by rw[hPK1,hS,hSF,hM,holi,hol,hll];rfl
   have hll5:ll≤100000:=by rw[hll];exact knS (fun x hx=>jJ hq8 x (by rw[hqd'] at hx;exact List.mem_of_mem_drop hx)) hS
   clear hSF hPK1 hS;rw[h00];cbv;rw[ho0,eM,oll];refine WX.cv (Cv.slotEq 5 (v:=.slice 8 .z 1 n lc) (.slice 8 (.n 0) 1 n lc) (by rfl) (fun σ=>by simp[den,ixN]) (Cv.here ?_))
   refine kG (α:=Nat×Int×List Int×List Int×Nat×Nat×Nat×Int×Int×Int×Nat×Nat×Nat) ([1013005,64,1074122]) [5,7,4,3,2,1] (fun(i,iI,oc_,t,lo,ln,cp,A,B,C,olc,occ,occ2)=>[(73,.int .i64 iI),(5,.slice 8 (.n lo) 1 ln cp)]) (fun(i,iI,oc_,t,lo,ln,cp,A,B,C,olc,occ,occ2)=>[(0,.one 107 [.slice 1 .z 1 wm ld,.slice 2 .z 3 N0 m0,.slice 3 .z 3 N1 m1,.slice 4 .z 3 N2 m2,.int .i64 A,.int .i64 B,.int .i64 C,.int .u64 win,.int .i64 most,.int .u64 siz,.bool told,.bool sm,.int .u64 skip,.slice 5 .z 1 olc occ,.int .i64 gone]),(5,.buf 5 .u8 oc_ occ2)])
    (fun(i,iI,oc_,t,lo,ln,cp,A,B,C,olc,occ,occ2)=>iI=i∧i≤ll∧SF i=some (oc_,t,A,B,C)∧olc=oc_.length∧olc≤occ∧occ≤occ2∧(olc:Int)≤M∧ol≤olc∧LtOk LL t lo ln cp∧ln≤1000000) (fun(i,iI,oc_,t,lo,ln,cp,A,B,C,olc,occ,occ2)=>ll-i) hw hm ?_ ?_
   ·refine Cv.genAt [73] [] (Cv.fold ([1013005,64,1074122]) 10 [5,7,4,3,2,1] (by exact Nat.le_refl _) (by exact Nat.le_of_ble_eq_true rfl) (by rfl) (by cbv) ?_)
    intro js2;refine⟨(0,0,out,L,0,n,lc,a,b,c,ol,oc,oc2),?_,js2,rfl⟩
    exact⟨rfl,Nat.zero_le _,hSF0,hol,hoc,hoc2,hMr.1,Nat.le_refl _,⟨hn.symm,by rw[List.drop_zero];exact hLt.symm,by omega,hnc⟩,by omega⟩
   ·rintro⟨i,iI,oc_,t,lo,ln,cp,A,B,C,olc,occ,occ2⟩ js2 ⟨hiI,hi,hSi,holc,hoc1,hoc3,hMo,hoo,hlt,hln⟩;by_cases hil:i<ll
    ·have hlli:lli=(ll:Int):=hlli;have hMr:(ol:Int)≤M∧M≤100131072:=hMr;have h1:vc .lss iI lli=true:=by rw[qc,ko];omega
     have hti:vtoN iI=i:=by rw[hiI];simp only[qtoN,Int.toNat_natCast]
     have hr:=row_in hro (i:=i) (by omega);refine Exists.elim (kX (f i)) (fun lv hlv=>?_)
     refine Exists.elim (kX (g i)) (fun mv hmv=>?_)
     refine Exists.elim (kX (h i)) (fun kv hkv=>?_)
     have hl1:lv=(LS.getD i (0,0,0)).1:=by rw[hlv,hf]
     have hm1:mv=(LS.getD i (0,0,0)).2.1:=by rw[hmv,hg]
     have hk1:kv=(LS.getD i (0,0,0)).2.2:=by rw[hkv,hh]
     obtain⟨hlr,hmr,hkr⟩:=(show(0≤lv∧lv≤1000000)∧(0≤mv∧mv≤1000000)∧(0≤kv∧kv≤100000000000) from by rw[hl1,hm1,hk1];exact hr);clear hr;have hin:0≤iI∧iI<(ll:Int):=by omega
     have hadd0:∀i,vaddN 0 i=i:=fun i=>by simp only[qaddN,Nat.zero_add]
     have hil':vaddN 0 i<ll:=by rw[hadd0];exact hil
     refine Exists.elim (kX (ln:Int)) (fun lnI hlnI=>?_)
     have oln:vofN ln=lnI:=by rw[qofN];exact hlnI.symm
     have hvall:=hval A B C lv kv;by_cases hlg:lnI<lv
     ·have hPn:PK=none:=by rw[hPK2,hSFn i (by rw[hSFs i _ hSi];exact kl8 (by rw[hlt.len,←hl1];omega)) hil];rfl
      have h2:vc .gtr lv lnI=true:=by rw[qc,gtr_true];exact hlg
      cbv;rw[h1];cbv;rw[hti];refine⟨⟨hin⟩,⟨hil'⟩,⟨hil⟩,⟨hil⟩,⟨hil⟩,?_⟩
      (repeat refine And.intro (fun _=>rfl) ?_);rw[←hlv,oln,h2];cbv;(repeat refine And.intro (fun _=>rfl) ?_);exact .inr (fun js=>hE hPn _ _ _ _ _ _ _ _ _ _ _ _ _ _ _ _ _ _ _ _ _ _ _ _ _ _ _ _ (by omega))
     refine Exists.elim (k9 lv.toNat) (fun lN hlN=>?_)
     have tl:vtoN lv=lN:=by rw[qtoN];exact hlN.symm
     have hlle:lN≤ln:=by omega
     refine Exists.elim (kb3 (t.take lN)) (fun ts hts=>?_)
     have hsS:vsub LL lo lN=ts:=by rw[qsub,hts];exact hlt.sub hlle
     refine Exists.elim (k9 (olc+lN)) (fun ol1 hol1=>?_)
     have aO:vaddN olc lN=ol1:=by rw[qaddN];exact hol1.symm
     refine Exists.elim (kb3 (oc_++ts)) (fun o1 ho1=>?_)
     have eO:vonto oc_ olc ts=o1:=by rw[qonto,holc,ho1];exact congrArg (·++ts) List.take_length
     have hol1L:ol1=o1.length:=by rw[ho1,List.length_append,hts,List.length_take,hlt.len,←holc,hol1];omega
     refine Exists.elim (k9 (if cp=lN then lo else lo+lN)) (fun lo2 hlo2=>?_)
     have c2:vcutN lo lN cp=lo2:=by rw[qcutN];exact hlo2.symm
     refine Exists.elim (k9 (ln-lN)) (fun ln2 hln2=>?_)
     have s4:vsubN ln lN=ln2:=by simp only[qsubN];exact hln2.symm
     refine Exists.elim (k9 (cp-lN)) (fun cp2 hcp2=>?_)
     have s5:vsubN cp lN=cp2:=by simp only[qsubN];exact hcp2.symm
     have hlt2:=hlt.step hlle hlo2;rw[←hln2,←hcp2] at hlt2;have q1:0≤lv∧lv≤(cp:Int):=by have:=hlt.cap;omega
     have q2:0≤lv∧lv≤(ln:Int):=by omega
     have q3:vaddN lo lN≤vln LL:=by simp only[qaddN,qln];have:=hlt.le;omega
     have q4:olc≤vln oc_:=by rw[qln];exact Nat.le_of_eq holc
     have q5:ol1*1≤140737488355328:=by omega
     have q6:ol≤ol1:=by omega
     have q7:ol1≤102000000:=by omega
     have h2:vc .gtr lv lnI=false:=by rw[qc,gtr_false];exact hlg
     refine Exists.elim (kX (ol1:Int)) (fun o1I ho1I=>?_)
     have oo1:vofN ol1=o1I:=by rw[qofN];exact ho1I.symm
     have hlg':¬(t.length:Int)<(LS.getD i (0,0,0)).1:=by rw[hlt.len,←hl1];omega
     have ho1':o1=oc_++t.take lv.toNat:=by rw[ho1,hts,hlN]
     cbv;rw[h1];cbv;rw[hti];refine⟨⟨hin⟩,⟨hil'⟩,⟨hil⟩,⟨hil⟩,⟨hil⟩,?_⟩
     (repeat refine And.intro (fun _=>rfl) ?_);rw[←hlv,←hmv,←hkv,oln,h2];cbv;rw[tl,aO,hsS];refine⟨⟨q1⟩,⟨q3⟩,⟨q4⟩,⟨hoc3⟩,⟨q5⟩,?_⟩
     (repeat refine And.intro (fun _=>rfl) ?_);intro oc1 jv hoc1';have hc1:ol1≤oc1:=by have h9:vaddN olc lN≤oc1:=hoc1'.out;rwa [aO] at h9
     cbv;rw[eO];try rw[tl]
     try rw[aO]
     rw[c2,s4,s5];refine⟨⟨q2⟩,?_⟩
     refine ka (ρ:=[(0,.z),(1,.z),(2,.z),(3,.z),(4,.z),(5,.z)]) (hvall l o1 wm ld ld2 N0 N1 N2 m0 m1 m2 i0 i1 i2 ol1 oc1 oc1 X0 Y0 Z0 X1 Y1 Z1 X2 Y2 Z2 win most siz skip gone told sm) ⟨by rfl,by rfl,by rfl,by cbv;(repeat' first|(refine And.intro ?_ ?_)|exact trivial|exact⟨Nat.le_refl _⟩|exact kb _|exact fun _=>rfl|(simp only[renL3];done)|(show SB.roA _ _ _=SB.roA _ _ _;rfl)|exact funext fun _=>rfl)⟩ ?_
     rintro v H R js3 ⟨d,e,A',B',C',hv3,rfl,rfl,rfl⟩;rw[hl1,hk1] at hv3;refine Exists.elim (kX (IntKind.u64.wrap d)) (fun dW hdW=>?_)
     have edW:vw .u64 d=dW:=by rw[qw];exact hdW.symm
     refine Exists.elim (kX (o1I+mv)) (fun sI hsI=>?_)
     have ho1I:o1I=(ol1:Int):=ho1I;have esI:vb .add .i64 o1I mv=sI:=by rw[qb,hsI];exact ku (by omega) (by omega)
     have hnb:∀(_:e≠0∨win<IntKind.u64.wrap d∨(o1.length:Int)<d∨M<o1.length+(LS.getD i (0,0,0)).2.1),PK=none:=fun hb=>by rw[hPK2,hSFn i (by rw[hSFs i _ hSi];exact kpp hlg' hl1 ho1' hv3 hb) hil];rfl
     cbv;(repeat refine And.intro (fun _=>rfl) ?_);simp only[renL3];by_cases c1:e≠0
     ·have hPn:=hnb (.inl c1);rw[show vc .neq e 0=true by rw[qc,kz];exact c1];cbv;(repeat refine And.intro (fun _=>rfl) ?_);exact .inr (fun js=>hE hPn _ _ _ _ _ _ _ _ _ _ _ _ _ _ _ _ _ _ _ _ _ _ _ _ _ _ _ _ (by omega))
     rw[show vc .neq e 0=false by rw[qc,kQ];exact c1];cbv;rw[edW];by_cases c2:win<dW
     ·have hPn:=hnb (.inr (.inl (by rw[←hdW];exact c2)));rw[show vc .gtr dW win=true by rw[qc,gtr_true];exact c2];cbv;(repeat refine And.intro (fun _=>rfl) ?_);exact .inr (fun js=>hE hPn _ _ _ _ _ _ _ _ _ _ _ _ _ _ _ _ _ _ _ _ _ _ _ _ _ _ _ _ (by omega))
     rw[show vc .gtr dW win=false by rw[qc,gtr_false];exact c2];cbv;rw[oo1];by_cases c3:o1I<d
     ·have hPn:=hnb (.inr (.inr (.inl (by rw[←hol1L];omega))));rw[show vc .gtr d o1I=true by rw[qc,gtr_true];exact c3];cbv;(repeat refine And.intro (fun _=>rfl) ?_);exact .inr (fun js=>hE hPn _ _ _ _ _ _ _ _ _ _ _ _ _ _ _ _ _ _ _ _ _ _ _ _ _ _ _ _ (by omega))
     rw[show vc .gtr d o1I=false by rw[qc,gtr_false];exact c3];cbv;rw[oo1,esI];by_cases c4:M<sI
     ·have hPn:=hnb (.inr (.inr (.inr (by rw[←hol1L,←hm1];omega))));rw[show vc .gtr sI M=true by rw[qc,gtr_true];exact c4];cbv;(repeat refine And.intro (fun _=>rfl) ?_);exact .inr (fun js=>hE hPn _ _ _ _ _ _ _ _ _ _ _ _ _ _ _ _ _ _ _ _ _ _ _ _ _ _ _ _ (by omega))
     rw[show vc .gtr sI M=false by rw[qc,gtr_false];exact c4];cbv;rw[oo1];have ho1I:o1I=(ol1:Int):=ho1I;have hMr:(ol:Int)≤M∧M≤100131072:=hMr;have hlli:lli=(ll:Int):=hlli;have hiI:iI=(i:Int):=hiI;have he0:e=0:=by omega
     have hdp:1≤d:=knP (by rw[←hk1];exact hkr.2) (he0▸hv3);have hdn:¬(e≠0∨win<IntKind.u64.wrap d∨(o1.length:Int)<d∨M<o1.length+(LS.getD i (0,0,0)).2.1):=by
      rw[←hdW,←hol1L,←hm1];rintro(h|h|h|h)
      ·exact c1 h
      ·exact c2 h
      ·omega
      ·omega
     have hS1:SF (i+1)=some (kjQ o1 d mv,t.drop lN,A',B',C'):=by rw[hSFs i _ hSi,kqG hlg' hl1 ho1' hv3 hdn,hm1,hlN]
     clear hnb hdn hv3 hSi;refine Exists.elim (k9 d.toNat) (fun dN hdN=>?_)
     refine Exists.elim (k9 (ol1-dN)) (fun fN hfN=>?_)
     have hfd:fN+dN=ol1:=by omega
     have hdI:(dN:Int)=d:=by omega
     refine Exists.elim (kX (fN:Int)) (fun fI hfI=>?_)
     have efI:vb .sub .i64 o1I d=fI:=by rw[qb,kJ (by omega) (by omega)];omega
     have tf:vtoN fI=fN:=by rw[hfI];simp only[qtoN,Int.toNat_natCast]
     refine Exists.elim (k9 mv.toNat) (fun mN hmN=>?_)
     have hmI:(mN:Int)=mv:=by omega
     have hsM:o1I+mv≤M:=by omega
     have hfo:fN=o1.length-d.toNat:=by rw[←hol1L,hfN,hdN]
     refine Exists.elim (kX ((i+1:Nat):Int)) (fun i1' hi1'=>?_)
     have ei1:vb .add .i64 iI 1=i1':=by rw[qb,hi1',hiI,ku (by omega) (by omega)];push_cast;rfl
     have hmu:ll-(i+1)<ll-i:=by omega
     have hln2':ln2≤1000000:=by omega
     rw[efI];by_cases hdm:mv≤d
     ·refine Exists.elim (k9 (fN+mN)) (fun hN hhN=>?_)
      refine Exists.elim (kX (hN:Int)) (fun hI hhI=>?_)
      have ehI:vb .add .i64 fI mv=hI:=by rw[qb,ku (by omega) (by omega)];omega
      have th:vtoN hI=hN:=by rw[hhI];simp only[qtoN,Int.toNat_natCast]
      refine Exists.elim (k9 (if oc1=fN then 0 else 0+fN)) (fun fo hfo'=>?_)
      have cfo:vcutN 0 fN oc1=fo:=by rw[qcutN];exact hfo'.symm
      have sm1:vsubN hN fN=mN:=by simp only[qsubN];omega
      refine Exists.elim (k9 (oc1-fN)) (fun fc hfc=>?_)
      have sm2:vsubN oc1 fN=fc:=by simp only[qsubN];exact hfc.symm
      refine Exists.elim (kb3 (sg o1 fN mN)) (fun gs hgs=>?_)
      have hsg:vsub o1 fo mN=gs:=by
       rw[qsub,hgs,hfo'];by_cases hz:oc1=fN
       ·rw[if_pos hz];have:mN=0:=by omega
        rw[this];rfl
       ·rw[if_neg hz,Nat.zero_add];rfl
      refine Exists.elim (k9 (ol1+mN)) (fun ol2 hol2=>?_)
      have aO2:vaddN ol1 mN=ol2:=by rw[qaddN];exact hol2.symm
      refine Exists.elim (kb3 (o1++gs)) (fun o2 ho2=>?_)
      have eO2:vonto o1 ol1 gs=o2:=by rw[qonto,hol1L,ho2];exact congrArg (·++gs) List.take_length
      have hgl:gs.length=mN:=by rw[hgs];exact kP (by rw[←hol1L];omega)
      have hS2:SF (i+1)=some (o2,t.drop lN,A',B',C'):=by rw[hS1,kpq hdm hfo hmN,←hgs,←ho2]
      have hinv:((i+1:Nat):Int)=((i+1:Nat):Int)∧i+1≤ll∧ol2=o2.length∧(ol2:Int)≤M∧ol≤ol2:=⟨rfl,hil,by rw[ho2,List.length_append,hgl,←hol1L];exact hol2,by omega,by omega⟩;have r1:0≤hI∧hI≤(oc1:Int):=by omega
      have r2:0≤fI∧fI≤(hN:Int):=by omega
      have r3:vaddN fo mN≤vln o1:=by simp only[qaddN,qln];rw[hfo',←hol1L];split<;>omega
      have r4:ol1≤vln o1:=by rw[qln];exact Nat.le_of_eq hol1L
      have r5:ol2*1≤140737488355328:=by omega
      rw[show vc .geq d mv=true by rw[qc,jm];exact hdm];cbv;rw[ehI,tf,th,cfo,sm1,sm2,hsg,aO2];refine⟨⟨r1⟩,⟨r2⟩,⟨r3⟩,⟨r4⟩,⟨Nat.le_refl _⟩,⟨r5⟩,?_⟩
      (repeat refine And.intro (fun _=>rfl) ?_);intro oc3 jv2 hoc3';have hc3:ol2≤oc3:=by have h9:vaddN ol1 mN≤oc3:=hoc3'.out;rwa [aO2] at h9
      cbv;rw[eO2,ei1];try rw[aO2]
      refine Cv.fold ([1013005,64,1074122]) 10 [5,7,4,3,2,1] (by exact Nat.le_refl _) (by exact Nat.le_of_ble_eq_true rfl) (by rfl) (by cbv) ?_
      intro js4;exact⟨(i+1,i1',o2,t.drop lN,lo2,ln2,cp2,A',B',C',ol2,oc3,oc3),⟨⟨hi1',hinv.2.1,hS2,hinv.2.2.1,hc3,Nat.le_refl _,hinv.2.2.2.1,hinv.2.2.2.2,hlt2,hln2'⟩,hmu⟩,js4,rfl⟩
     rw[show vc .geq d mv=false by rw[qc,kZ];exact hdm];have hS2:SF (i+1)=some (q8 o1 fN mN,t.drop lN,A',B',C'):=by rw[hS1,knQ hdm hfo hmN]
     have hG0:q8 o1 fN 0=o1:=rfl;have hGs:∀j,q8 o1 fN (j+1)=q8 o1 fN j++[(q8 o1 fN j).getD (fN+j) 0]:=fun _=>rfl
     have hGl:∀j,(q8 o1 fN j).length=ol1+j:=fun j=>by rw[kgG,hol1L]
     refine Exists.elim (⟨_,rfl⟩:∃G,G=q8 o1 fN) (fun G hG'=>?_)
     rw[←hG'] at hS2 hG0 hGs hGl;clear hG' hS1;cbv;refine kG (α:=Nat×Int×List Int×Nat×Nat×Nat) ([17,1074098,1174022]) [5,7,4,3,2,1] (fun(j,jI,oj,olj,ocj,ocj2)=>[(173,.int .i64 jI)]) (fun(j,jI,oj,olj,ocj,ocj2)=>[(0,.one 107 [.slice 1 .z 1 wm ld,.slice 2 .z 3 N0 m0,.slice 3 .z 3 N1 m1,.slice 4 .z 3 N2 m2,.int .i64 A',.int .i64 B',.int .i64 C',.int .u64 win,.int .i64 most,.int .u64 siz,.bool told,.bool sm,.int .u64 skip,.slice 5 .z 1 olj ocj,.int .i64 gone]),(5,.buf 5 .u8 oj ocj2)])
      (fun(j,jI,oj,olj,ocj,ocj2)=>jI=j∧j≤mN∧oj=G j∧olj=ol1+j∧olj≤ocj∧ocj≤ocj2) (fun(j,jI,oj,olj,ocj,ocj2)=>mN-j) hw hm ?_ ?_
     ·refine Cv.genAt [173] [] (Cv.fold ([17,1074098,1174022]) 11 [5,7,4,3,2,1] (by exact Nat.le_refl _) (by exact Nat.le_of_ble_eq_true rfl) (by rfl) (by cbv) ?_)
      intro js4;exact⟨(0,0,o1,ol1,oc1,oc1),⟨rfl,Nat.zero_le _,hG0.symm,rfl,hc1,Nat.le_refl _⟩,js4,rfl⟩
     ·rintro⟨j,jI,oj,olj,ocj,ocj2⟩ js4 ⟨hjI,hj,hoj,holj,hcj,hcj2⟩;have ho1I:o1I=(ol1:Int):=ho1I;have hMr:(ol:Int)≤M∧M≤100131072:=hMr;have hfI:fI=(fN:Int):=hfI;have hfd:fN+dN=ol1:=hfd;have hdI:(dN:Int)=d:=hdI;have hmI:(mN:Int)=mv:=hmI;have hlli:lli=(ll:Int):=hlli;have hiI:iI=(i:Int):=hiI;have hi1':i1'=((i+1:Nat):Int):=hi1';by_cases hjm:j<mN
      ·refine Exists.elim (k9 (fN+j)) (fun xN hxN=>?_)
       refine Exists.elim (kX (xN:Int)) (fun xI hxI=>?_)
       have exI:vb .add .i64 fI jI=xI:=by rw[qb,ku (by omega) (by omega)];omega
       have tx:vtoN xI=xN:=by rw[hxI];simp only[qtoN,Int.toNat_natCast]
       have hojl:oj.length=olj:=by rw[hoj,hGl,holj]
       have r1:0≤xI∧xI<(olj:Int):=by omega
       have r2:vaddN 0 xN<vln oj:=by rw[hadd0,qln];show xN<oj.length;omega
       have r3:xN<vln oj:=by rw[qln];show xN<oj.length;omega
       refine Exists.elim (kX (oj.getD xN 0)) (fun y hy=>?_)
       have egd:vgd oj xN=y:=by rw[qgd];exact hy.symm
       have eone:vsub [y] 0 1=[y]:=by rw[qsub];rfl
       have r4:vaddN 0 1≤vln [y]:=by rw[hadd0,qln];exact Nat.le_refl 1
       have r5:olj≤vln oj:=by rw[qln];exact Nat.le_of_eq hojl.symm
       refine Exists.elim (k9 (olj+1)) (fun olk holk=>?_)
       have aO2:vaddN olj 1=olk:=by rw[qaddN];exact holk.symm
       have r6:olk*1≤140737488355328:=by omega
       refine Exists.elim (kb3 (oj++[y])) (fun ok hok'=>?_)
       have eO2:vonto oj olj [y]=ok:=by rw[qonto,←hojl,hok'];exact congrArg (·++[y]) List.take_length
       have hokG:ok=G (j+1):=by rw[hok',hGs,←hoj,hy,hxN]
       refine Exists.elim (kX ((j+1:Nat):Int)) (fun j1 hj1=>?_)
       have ej1:vb .add .i64 jI 1=j1:=by rw[qb,hj1,hjI,ku (by omega) (by omega)];push_cast;rfl
       have hmu2:mN-(j+1)<mN-j:=by omega
       have holk2:olk=ol1+(j+1):=by omega
       have hlj:vc .lss jI mv=true:=by rw[qc,ko];omega
       cbv;rw[hlj];cbv;rw[exI,tx];refine⟨⟨r1⟩,⟨r2⟩,⟨r3⟩,?_⟩
       (repeat refine And.intro (fun _=>rfl) ?_);rw[egd];refine⟨⟨r4⟩,⟨r5⟩,⟨hcj2⟩,⟨by rw[aO2];exact r6⟩,?_⟩
       (repeat refine And.intro (fun _=>rfl) ?_);intro ock jv2 hock';have hck:olk≤ock:=by have h9:vaddN olj 1≤ock:=hock'.out;rwa [aO2] at h9
       cbv;rw[eone,eO2,aO2,ej1];refine Cv.fold ([17,1074098,1174022]) 11 [5,7,4,3,2,1] (by exact Nat.le_refl _) (by exact Nat.le_of_ble_eq_true rfl) (by rfl) (by cbv) ?_
       intro js5;exact⟨(j+1,j1,ok,olk,ock,ock),⟨⟨hj1,hjm,hokG,holk2,hck,Nat.le_refl _⟩,hmu2⟩,js5,rfl⟩
      ·have hjm':j=mN:=by omega
       subst hjm';rw[←hoj] at hS2;have hinv:i+1≤ll∧olj=oj.length∧(olj:Int)≤M∧ol≤olj:=⟨hil,by rw[hoj,hGl,holj],by omega,by omega⟩;have hlj:vc .lss jI mv=false:=by rw[qc,km];omega
       cbv;rw[hlj];cbv;rw[ei1];refine Cv.fold ([1013005,64,1074122]) 10 [5,7,4,3,2,1] (by exact Nat.le_refl _) (by exact Nat.le_of_ble_eq_true rfl) (by rfl) (by cbv) ?_
       intro js5;exact⟨(i+1,i1',oj,t.drop lN,lo2,ln2,cp2,A',B',C',olj,ocj,ocj2),⟨⟨hi1',hinv.1,hS2,hinv.2.1,hcj,hcj2,hinv.2.2.1,hinv.2.2.2,hlt2,hln2'⟩,hmu⟩,js5,rfl⟩
    ·have hlli:lli=(ll:Int):=hlli;have hMr:(ol:Int)≤M∧M≤100131072:=hMr;have hil2:i=ll:=by omega
     have h1:vc .lss iI lli=false:=by rw[qc,km];omega
     refine Exists.elim (k9 (olc+ln)) (fun ol2 hol2=>?_)
     have aO:vaddN olc ln=ol2:=by rw[qaddN];exact hol2.symm
     have hsS:vsub LL lo ln=t:=by rw[qsub];exact hlt.eq.symm
     refine Exists.elim (kb3 (oc_++t)) (fun o2 ho2=>?_)
     have eO:vonto oc_ olc t=o2:=by rw[qonto,holc,ho2];exact congrArg (·++t) List.take_length
     have hol2L:ol2=o2.length:=by rw[ho2,List.length_append,hlt.len,←holc];exact hol2
     refine Exists.elim (kX (ol2:Int)) (fun o2I ho2I=>?_)
     have oo2:vofN ol2=o2I:=by rw[qofN];exact ho2I.symm
     have q3:vaddN lo ln≤vln LL:=by simp only[qaddN,qln];exact hlt.le
     have q4:olc≤vln oc_:=by rw[qln];exact Nat.le_of_eq holc
     have q5:ol2*1≤140737488355328:=by omega
     have hPK3:PK=if M<(oc_++t).length then none else some ⟨l,⟨N0,X0,Y0,Z0⟩,⟨N1,X1,Y1,Z1⟩,⟨N2,X2,Y2,Z2⟩,A,B,C,oc_++t⟩:=by rw[hPK2,←hil2,hSi];rfl
     rw[←ho2,←hol2L] at hPK3;cbv;rw[h1];cbv;rw[aO,hsS];refine⟨⟨q3⟩,⟨q4⟩,⟨hoc3⟩,⟨q5⟩,?_⟩
     (repeat refine And.intro (fun _=>rfl) ?_);intro oc1 jv hoc1';have hc1:ol2≤oc1:=by have h9:vaddN olc ln≤oc1:=hoc1'.out;rwa [aO] at h9
     cbv;rw[eO];try rw[aO]
     rw[oo2];by_cases hbig:M<o2I
     ·have hPn:PK=none:=by rw[hPK3,if_pos (by omega)]
      rw[show vc .gtr o2I M=true by rw[qc,gtr_true];exact hbig];cbv;(repeat refine And.intro (fun _=>rfl) ?_);exact .inr (fun js=>hE hPn _ _ _ _ _ _ _ _ _ _ _ _ _ _ _ _ _ _ _ _ _ _ _ _ _ _ _ _ (by omega))
     ·rw[if_neg (by omega)] at hPK3;rw[show vc .gtr o2I M=false by rw[qc,gtr_false];exact hbig];cbv;(repeat refine And.intro (fun _=>rfl) ?_);exact .inl (hG _ _ _ _ _ _ _ _ _ _ _ _ _ _ _ _ _ _ _ _ _ _ _ _ _ _ _ _ _ hPK3 hwm hol2L hc1 (Nat.le_refl _) (by omega))
theorem kqJ (w out q:List Int) (wl wc wc2 n0 n1 n2 k0 k1 k2 j0 j1 j2 ol oc oc2 ql cq:Nat) (x0 y0 z0 x1 y1 z1 x2 y2 z2:Nat→Int) (a b c win most siz skip gone:Int) (told sm:Bool) (hq8:∀x∈q,kF x) (hql:ql=q.length) (hqc:ql≤cq) (hqm:cq≤140737488355328) (hF:kcp ⟨w,⟨n0,x0,y0,z0⟩,⟨n1,x1,y1,z1⟩,⟨n2,x2,y2,z2⟩,a,b,c,out⟩) (hwl:wl=w.length) (hol:ol=out.length) (hoc:ol≤oc) (hoc2:oc≤oc2) (hout:ol≤100000000) (hmost:0≤most∧most≤131072) :
  Con Try.prog 124 [.ptr 0 .z 15 0,.slice 6 .z 1 ql cq] [.one 107 [.slice 1 .z 1 wl wc,.slice 2 .z 3 n0 k0,.slice 3 .z 3 n1 k1,.slice 4 .z 3 n2 k2,.int .i64 a,.int .i64 b,.int .i64 c,.int .u64 win,.int .i64 most,.int .u64 siz,.bool told,.bool sm,.int .u64 skip,.slice 5 .z 1 ol oc,.int .i64 gone],.buf 5 .u8 w wc2,.bufA 79 3 n0 (fun m=>[.int .u8 (x0 m),.int .u8 (y0 m),.int .u16 (z0 m)]) j0,.bufA 79 3 n1 (fun m=>[.int .u8 (x1 m),.int .u8 (y1 m),.int .u16 (z1 m)]) j1,.bufA 79 3 n2 (fun m=>[.int .u8 (x2 m),.int .u8 (y2 m),.int .u16 (z2 m)]) j2,.buf 5 .u8 out oc2,.ro .u8 q] (fun v H R=>R=[1,2,3,4,5]∧((v=.lit .i64 11∧kdn win most q ⟨w,⟨n0,x0,y0,z0⟩,⟨n1,x1,y1,z1⟩,⟨n2,x2,y2,z2⟩,a,b,c,out⟩=none∧∃(u0 u1 u2 u3:Value) (W OUT:List Int) (WC2 N0 N1 N2 J0 J1 J2 OL OC OC2:Nat) (X0 Y0 Z0 X1 Y1 Z1 X2 Y2 Z2:Nat→Int) (A B C:Int),ol≤OC∧H=[.one 107 [.val u0,.val u1,.val u2,.val u3,.int .i64 A,.int .i64 B,.int .i64 C,.int .u64 win,.int .i64 most,.int .u64 siz,.bool told,.bool sm,.int .u64 skip,.slice 5 .z 1 OL OC,.int .i64 gone],.buf 5 .u8 W WC2,.bufA 79 3 N0 (fun m=>[.int .u8 (X0 m),.int .u8 (Y0 m),.int .u16 (Z0 m)]) J0,.bufA 79 3 N1 (fun m=>[.int .u8 (X1 m),.int .u8 (Y1 m),.int .u16 (Z1 m)]) J1,.bufA 79 3 N2 (fun m=>[.int .u8 (X2 m),.int .u8 (Y2 m),.int .u16 (Z2 m)]) J2,.buf 5 .u8 OUT OC2,.ro .u8 q]) ∨
   (v=.lit .i64 0∧∃(W OUT:List Int) (WL WC WC2 N0 N1 N2 K0 K1 K2 J0 J1 J2 OL OC OC2:Nat) (X0 Y0 Z0 X1 Y1 Z1 X2 Y2 Z2:Nat→Int) (A B C:Int),kdn win most q ⟨w,⟨n0,x0,y0,z0⟩,⟨n1,x1,y1,z1⟩,⟨n2,x2,y2,z2⟩,a,b,c,out⟩=some ⟨W,⟨N0,X0,Y0,Z0⟩,⟨N1,X1,Y1,Z1⟩,⟨N2,X2,Y2,Z2⟩,A,B,C,OUT⟩∧WL=W.length∧OL=OUT.length∧OL≤OC∧OC≤OC2∧ol≤OL∧H=[.one 107 [.slice 1 .z 1 WL WC,.slice 2 .z 3 N0 K0,.slice 3 .z 3 N1 K1,.slice 4 .z 3 N2 K2,.int .i64 A,.int .i64 B,.int .i64 C,.int .u64 win,.int .i64 most,.int .u64 siz,.bool told,.bool sm,.int .u64 skip,.slice 5 .z 1 OL OC,.int .i64 gone],.buf 5 .u8 W WC2,.bufA 79 3 N0 (fun m=>[.int .u8 (X0 m),.int .u8 (Y0 m),.int .u16 (Z0 m)]) J0,.bufA 79 3 N1 (fun m=>[.int .u8 (X1 m),.int .u8 (Y1 m),.int .u16 (Z1 m)]) J1,.bufA 79 3 N2 (fun m=>[.int .u8 (X2 m),.int .u8 (Y2 m),.int .u16 (Z2 m)]) J2,.buf 5 .u8 OUT OC2,.ro .u8 q]))):=by
 refine kmY (kpw (fun v H R=>R=[1,2,3,4,5]∧((v=.int .i64 11∧kdn win most q ⟨w,⟨n0,x0,y0,z0⟩,⟨n1,x1,y1,z1⟩,⟨n2,x2,y2,z2⟩,a,b,c,out⟩=none∧∃(u0 u1 u2 u3:Value) (W OUT:List Int) (WC2 N0 N1 N2 J0 J1 J2 OL OC OC2:Nat) (X0 Y0 Z0 X1 Y1 Z1 X2 Y2 Z2:Nat→Int) (A B C:Int),ol≤OC∧H=[.one 107 [.val u0,.val u1,.val u2,.val u3,.int .i64 A,.int .i64 B,.int .i64 C,.int .u64 win,.int .i64 most,.int .u64 siz,.bool told,.bool sm,.int .u64 skip,.slice 5 .z 1 OL OC,.int .i64 gone],.buf 5 .u8 W WC2,.bufA 79 3 N0 (fun m=>[.int .u8 (X0 m),.int .u8 (Y0 m),.int .u16 (Z0 m)]) J0,.bufA 79 3 N1 (fun m=>[.int .u8 (X1 m),.int .u8 (Y1 m),.int .u16 (Z1 m)]) J1,.bufA 79 3 N2 (fun m=>[.int .u8 (X2 m),.int .u8 (Y2 m),.int .u16 (Z2 m)]) J2,.buf 5 .u8 OUT OC2,.ro .u8 q]) ∨
   (v=.int .i64 0∧∃(W OUT:List Int) (WL WC WC2 N0 N1 N2 K0 K1 K2 J0 J1 J2 OL OC OC2:Nat) (X0 Y0 Z0 X1 Y1 Z1 X2 Y2 Z2:Nat→Int) (A B C:Int),kdn win most q ⟨w,⟨n0,x0,y0,z0⟩,⟨n1,x1,y1,z1⟩,⟨n2,x2,y2,z2⟩,a,b,c,out⟩=some ⟨W,⟨N0,X0,Y0,Z0⟩,⟨N1,X1,Y1,Z1⟩,⟨N2,X2,Y2,Z2⟩,A,B,C,OUT⟩∧WL=W.length∧OL=OUT.length∧OL≤OC∧OC≤OC2∧ol≤OL∧H=[.one 107 [.slice 1 .z 1 WL WC,.slice 2 .z 3 N0 K0,.slice 3 .z 3 N1 K1,.slice 4 .z 3 N2 K2,.int .i64 A,.int .i64 B,.int .i64 C,.int .u64 win,.int .i64 most,.int .u64 siz,.bool told,.bool sm,.int .u64 skip,.slice 5 .z 1 OL OC,.int .i64 gone],.buf 5 .u8 W WC2,.bufA 79 3 N0 (fun m=>[.int .u8 (X0 m),.int .u8 (Y0 m),.int .u16 (Z0 m)]) J0,.bufA 79 3 N1 (fun m=>[.int .u8 (X1 m),.int .u8 (Y1 m),.int .u16 (Z1 m)]) J1,.bufA 79 3 N2 (fun m=>[.int .u8 (X2 m),.int .u8 (Y2 m),.int .u16 (Z2 m)]) J2,.buf 5 .u8 OUT OC2,.ro .u8 q]))) w out q wl wc wc2 n0 n1 n2 k0 k1 k2 j0 j1 j2 ol oc oc2 ql cq x0 y0 z0 x1 y1 z1 x2 y2 z2 a b c win most siz skip gone told sm hq8 hql hqc hqm hF hwl hol hoc hoc2 hout hmost (fun h u0 u1 u2 u3 W OUT WC2 N0 N1 N2 J0 J1 J2 OL OC OC2 X0 Y0 Z0 X1 Y1 Z1 X2 Y2 Z2 A B C h1=>⟨rfl,.inl ⟨rfl,h,u0,u1,u2,u3,W,OUT,WC2,N0,N1,N2,J0,J1,J2,OL,OC,OC2,X0,Y0,Z0,X1,Y1,Z1,X2,Y2,Z2,A,B,C,h1,rfl⟩⟩) (fun W OUT WL WC WC2 N0 N1 N2 K0 K1 K2 J0 J1 J2 OL OC OC2 X0 Y0 Z0 X1 Y1 Z1 X2 Y2 Z2 A B C h1 h2 h3 h4 h5 h6=>⟨rfl,.inr ⟨rfl,W,OUT,WL,WC,WC2,N0,N1,N2,K0,K1,K2,J0,J1,J2,OL,OC,OC2,X0,Y0,Z0,X1,Y1,Z1,X2,Y2,Z2,A,B,C,h1,h2,h3,h4,h5,h6,rfl⟩⟩)) ?_
 rintro v H R ⟨h,⟨rfl,a⟩|⟨rfl,a⟩⟩
 ·exact⟨.lit .i64 11,fun σ=>rfl,h,.inl ⟨rfl,a⟩⟩
 ·exact⟨.lit .i64 0,fun σ=>rfl,h,.inr ⟨rfl,a⟩⟩
set_option maxHeartbeats 4000000
inductive BR where
 |bad (e:Int)
 |ok (last:Bool) (k:Nat) (F:FS)
def kpx (F:FS) (x:List Int):FS:=⟨F.w,F.T0,F.T1,F.T2,F.a,F.b,F.c,F.out++x⟩
noncomputable def kfT (win most kind size:Int) (s:List Int) (F:FS):Option FS:=
 if kind=0 then some (kpx F s) else if kind=1 then some (kpx F (List.replicate size.toNat (s.getD 0 0))) else kdn win most s F
def kd0 (siz:Int) (told last:Bool) (k:Nat):Option FS→BR
 |none=>.bad 11
 |some F=>if 16777216<F.out.length then .bad 3 else if told=true∧siz<F.out.length then .bad 11 else .ok last k F
def nB (h:Int):Nat:=if h / 2 % 4=1 then 1 else(h / 8).toNat
noncomputable def khn (win most siz:Int) (told:Bool) (b:List Int) (k:Nat) (F:FS) (h:Int):BR:=
 if h / 2 % 4=3∨most<h / 8 then .bad 11 else if b.length<k+nB h then .bad 10
 else kd0 siz told (decide (h % 2=1)) (k+nB h) (kfT win most (h / 2 % 4) (h / 8) (sg b k (nB h)) F)
noncomputable def ka6 (win most siz:Int) (told:Bool) (b:List Int) (k:Nat) (F:FS):BR:=
 if b.length<k+3 then .bad 10 else khn win most siz told b (k+3) F (kV (sg b k 3) 3)
theorem kgK (out:List Int) (f:Nat):∀i,∃x,q8 out f i=out++x
 |0=>⟨[],by rw[q8,List.append_nil]⟩
 |i+1=>by
  obtain⟨x,hx⟩:=kgK out f i;rw[q8,hx];exact⟨x++[(out++x).getD (f+i) 0],by rw[List.append_assoc]⟩
theorem kn1 (out:List Int) (d m:Int):∃x,kjQ out d m=out++x:=by
 unfold kjQ;split
 ·exact⟨_,rfl⟩
 ·exact kgK out _ _
theorem kn2 {win M:Int} {r:Int×Int×Int} {out lits:List Int} {a b c:Int} {s:ST} (h:khm win M r (out,lits,a,b,c)=some s):∃x,s.1=out++x:=by
 simp only[khm] at h;split at h
 ·cases h
 ·obtain⟨⟨d,e,a',b',c'⟩,hv⟩:∃x,x=jV a b c r.1 r.2.2:=⟨_,rfl⟩;rw[←hv] at h;unfold goP at h;simp only at h
  split at h
  ·cases h
  ·rw[Option.some.injEq] at h;obtain⟨x,hx⟩:=kn1 (out++lits.take r.1.toNat) d r.2.1;exact⟨lits.take r.1.toNat++x,by rw[←h,←List.append_assoc];exact hx⟩
theorem kiU {win M:Int} {LS:List (Int×Int×Int)} {s0:ST}:∀{n:Nat} {s:ST},kdY win M LS s0 n=some s→∃x,s.1=s0.1++x
 |0,s,h=>by
  simp only[kdY,Option.some.injEq] at h;exact⟨[],by rw[h,List.append_nil]⟩
 |n+1,s,h=>by
  rw[kdY,Option.bind_eq_some_iff] at h;obtain⟨⟨out,lits,a,b,c⟩,h1,h2⟩:=h;obtain⟨x,hx⟩:=kiU h1;obtain⟨y,hy⟩:=kn2 h2;exact⟨x++y,by rw[hy];simp only at hx;rw[hx,List.append_assoc]⟩
theorem kpy {win most:Int} {q:List Int} {F F':FS} (hq:∀x∈q,kF x) (hF:kcp F) (h:kdn win most q F=some F'):kcp F'∧∃x,F'.out=F.out++x:=by
 unfold kdn at h;split at h
 rename_i e L l u hL;split at h
 ·cases h
 rename_i he;simp only[ne_eq,Decidable.not_not] at he;subst he;obtain⟨l0,l1,l2,l3,l4⟩:=kfK hq hF.w8 hF.wl hL;split at h
 rename_i e LS T0 T1 T2 hS;split at h
 ·cases h
 rename_i he;simp only[ne_eq,Decidable.not_not] at he;subst he;obtain⟨s0,s1,s2,s3⟩:=kkz (fun x hx=>jJ hq x (List.mem_of_mem_drop hx)) hF.t0 hF.t1 hF.t2 hS;unfold kpm at h;split at h
 ·cases h
 rename_i out lits a b c hst;split at h
 ·cases h
 cases h
 obtain⟨x,hx⟩:=kiU hst;simp only at hx
 exact⟨⟨l3,l4,s1,s2,s3⟩,x++lits,by rw[hx,List.append_assoc]⟩
theorem kpz {win most kind size:Int} {s:List Int} {F F':FS} (hq:∀x∈s,kF x) (hF:kcp F) (h:kfT win most kind size s F=some F'):kcp F'∧∃x,F'.out=F.out++x:=by
 unfold kfT at h;split at h
 ·cases h
  exact⟨⟨hF.w8,hF.wl,hF.t0,hF.t1,hF.t2⟩,_,rfl⟩
 ·split at h
  ·cases h
   exact⟨⟨hF.w8,hF.wl,hF.t0,hF.t1,hF.t2⟩,_,rfl⟩
  ·exact kpy hq hF h
theorem kaL {win most siz:Int} {told last:Bool} {b:List Int} {k k':Nat} {F F':FS} (hb:∀x∈b,kF x) (hF:kcp F) (h:ka6 win most siz told b k F=.ok last k' F') :
  kcp F'∧(∃x,F'.out=F.out++x)∧F'.out.length≤16777216∧k+3≤k'∧k'≤b.length:=by
 unfold ka6 at h;split at h
 ·cases h
 unfold khn at h;split at h
 ·cases h
 split at h
 ·cases h
 unfold kd0 at h;split at h
 ·cases h
 rename_i F1 hk;split at h
 ·cases h
 split at h
 ·cases h
 cases h
 obtain⟨h1,h2⟩:=kpz (fun x hx=>qr hb _ _ x hx) hF hk;exact⟨h1,h2,by omega,by omega,by omega⟩
def kho:Tb:=⟨0,fun _=>0,fun _=>0,fun _=>0⟩
def F0:FS:=⟨[],kho,kho,kho,1,4,8,[]⟩
theorem kiV:kcp F0:=⟨(fun _ h=>by cases h),by decide,.inl rfl,.inl rfl,.inl rfl⟩
inductive RunB (win most siz:Int) (told:Bool) (b:List Int):Nat→FS→Int→Nat→FS→Prop
 |bad {k:Nat} {F:FS} {e:Int} (h:ka6 win most siz told b k F=.bad e):RunB win most siz told b k F e k F
 |last {k k':Nat} {F F':FS} (h:ka6 win most siz told b k F=.ok true k' F'):RunB win most siz told b k F 0 k' F'
 |next {k k' k2:Nat} {F F' F2:FS} {e:Int} (h:ka6 win most siz told b k F=.ok false k' F') (h2:RunB win most siz told b k' F' e k2 F2):RunB win most siz told b k F e k2 F2
def kbB (b:List Int) (siz:Int) (told sm:Bool) (k:Nat) (out:List Int):Int×Int:=
 if told=true∧(out.length:Int)≠siz then(0,11) else if sm=false then((k:Int),0) else if b.length<k+4 then(0,10)
 else if kV (sg b k 4) 4≠bV .and .u64 (kdZ out) 4294967295 then(0,11) else((k:Int)+4,0)
inductive MemR (b:List Int) (bud:Int):List Int→Int→Int→Prop
 |err {e:Int} (h:hdP b bud=.err e):MemR b bud [] 0 e
 |skipb {s:Int} (h:hdP b bud=.skip s) (hs:(b.length:Int)-8<s-1):MemR b bud [] 0 10
 |skip {s:Int} (h:hdP b bud=.skip s) (hs:¬((b.length:Int)-8<s-1)):MemR b bud [] (8+(s-1)) 0
 |bad {k k':Nat} {win most siz e:Int} {told sm:Bool} {F:FS} (h:hdP b bud=.frm k win most siz told sm) (hr:RunB win most siz told b k F0 e k' F) (he:e≠0):MemR b bud F.out 0 e
 |fin {k k':Nat} {win most siz n e:Int} {told sm:Bool} {F:FS} (h:hdP b bud=.frm k win most siz told sm) (hr:RunB win most siz told b k F0 0 k' F) (he:kbB b siz told sm k' F.out=(n,e)):MemR b bud F.out n e
theorem kdo {win most siz e:Int} {told:Bool} {b:List Int} {k:Nat} {F:FS} (h:ka6 win most siz told b k F=.bad e):e=10∨e=11∨e=3:=by
 unfold ka6 khn kd0 at h;repeat' split at h
 all_goals first|(cases h;simp;done)|cases h
theorem RunB.uniq {win most siz:Int} {told:Bool} {b:List Int} {k k1:Nat} {F F1:FS} {e:Int} (h:RunB win most siz told b k F e k1 F1):∀{e':Int} {k2:Nat} {F2:FS},RunB win most siz told b k F e' k2 F2→e=e'∧k1=k2∧F1=F2:=by
 induction h with
 |bad h=>
  intro e' k2 F2 h';cases h' with
  |bad h2=>rw[h] at h2;cases h2;exact⟨rfl,rfl,rfl⟩
  |last h2=>rw[h] at h2;cases h2
  |next h2 _=>rw[h] at h2;cases h2
 |last h=>
  intro e' k2 F2 h';cases h' with
  |bad h2=>rw[h] at h2;cases h2
  |last h2=>rw[h] at h2;cases h2;exact⟨rfl,rfl,rfl⟩
  |next h2 _=>rw[h] at h2;cases h2
 |next h _ ih=>
  intro e' k2 F2 h';cases h' with
  |bad h2=>rw[h] at h2;cases h2
  |last h2=>rw[h] at h2;cases h2
  |next h2 h3=>rw[h] at h2;cases h2;exact ih h3
theorem RunB.codes {win most siz:Int} {told:Bool} {b:List Int} {k k1:Nat} {F F1:FS} {e:Int} (h:RunB win most siz told b k F e k1 F1):e=0∨e=10∨e=11∨e=3:=by
 induction h with
 |bad h=>exact .inr (kdo h)
 |last h=>exact .inl rfl
 |next h _ ih=>exact ih
theorem MemR.uniq {b o1 o2:List Int} {bud n1 n2 e1 e2:Int} (h:MemR b bud o1 n1 e1) (h':MemR b bud o2 n2 e2):o1=o2∧n1=n2∧e1=e2:=by
 cases h with
 |err h=>
  cases h' with
  |err k=>rw[h] at k;cases k;exact⟨rfl,rfl,rfl⟩
  |skipb k=>rw[h] at k;cases k
  |skip k=>rw[h] at k;cases k
  |bad k=>rw[h] at k;cases k
  |fin k=>rw[h] at k;cases k
 |skipb h hs=>
  cases h' with
  |err k=>rw[h] at k;cases k
  |skipb k=>exact⟨rfl,rfl,rfl⟩
  |skip k ks=>rw[h] at k;cases k;exact absurd hs ks
  |bad k=>rw[h] at k;cases k
  |fin k=>rw[h] at k;cases k
 |skip h hs=>
  cases h' with
  |err k=>rw[h] at k;cases k
  |skipb k ks=>rw[h] at k;cases k;exact absurd ks hs
  |skip k ks=>rw[h] at k;cases k;exact⟨rfl,rfl,rfl⟩
  |bad k=>rw[h] at k;cases k
  |fin k=>rw[h] at k;cases k
 |bad h hr he=>
  cases h' with
  |err k=>rw[h] at k;cases k
  |skipb k ks=>rw[h] at k;cases k
  |skip k ks=>rw[h] at k;cases k
  |bad k kr ke=>rw[h] at k;cases k;obtain⟨rfl,rfl,rfl⟩:=hr.uniq kr;exact⟨rfl,rfl,rfl⟩
  |fin k kr ke=>rw[h] at k;cases k;exact absurd (hr.uniq kr).1 he
 |fin h hr he=>
  cases h' with
  |err k=>rw[h] at k;cases k
  |skipb k ks=>rw[h] at k;cases k
  |skip k ks=>rw[h] at k;cases k
  |bad k kr ke=>rw[h] at k;cases k;exact absurd (hr.uniq kr).1.symm ke
  |fin k kr ke=>rw[h] at k;cases k;obtain⟨_,rfl,rfl⟩:=hr.uniq kr;rw[he] at ke;cases ke;exact⟨rfl,rfl,rfl⟩
structure Ag (b b':List Int) (m:Nat):Prop where
 l1:m≤b.length
 l2:m≤b'.length
 eq:b.take m=b'.take m
theorem Ag.sg {b b':List Int} {m:Nat} (h:Ag b b' m) {k n:Nat} (hk:k+n≤m):sg b k n=sg b' k n:=by
 have e:∀c:List Int,Go.Proofs.Ytlclleihoampdaa.sg c k n=Go.Proofs.Ytlclleihoampdaa.sg (c.take m) k n:=fun c=>by
  unfold Go.Proofs.Ytlclleihoampdaa.sg;rw[List.drop_take,List.take_take,Nat.min_eq_left (by omega)]
 rw[e b,e b',h.eq]
theorem Ag.get {b b':List Int} {m:Nat} (h:Ag b b' m) {k:Nat} (hk:k<m):b.getD k 0=b'.getD k 0:=by
 have e:∀c:List Int,c.getD k 0=(c.take m).getD k 0:=fun c=>by
  rw[List.getD_eq_getElem?_getD,List.getD_eq_getElem?_getD,List.getElem?_take,if_pos hk]
 rw[e b,e b',h.eq]
theorem khp {win most siz:Int} {told last:Bool} {b b':List Int} {m k k':Nat} {F F':FS} (h:Ag b b' m) (hk:ka6 win most siz told b k F=.ok last k' F') (hm:k'≤m):ka6 win most siz told b' k F=.ok last k' F':=by
 have l1:=h.l1;have l2:=h.l2;unfold ka6 at hk ⊢
 split at hk
 ·cases hk
 unfold khn at hk ⊢
 split at hk
 ·cases hk
 rename_i h2;split at hk
 ·cases hk
 rename_i h3;have hle:k+3+nB (kV (sg b k 3) 3)≤m:=by
  have hk2:=hk;unfold kd0 at hk2;repeat' split at hk2
  all_goals first|(cases hk2;omega)|cases hk2
 have e1:sg b k 3=sg b' k 3:=h.sg (by omega);have e2:sg b (k+3) (nB (kV (sg b k 3) 3))=sg b' (k+3) (nB (kV (sg b k 3) 3)):=h.sg hle;rw[if_neg (by omega),←e1,if_neg h2,if_neg (by omega),←e2];exact hk
theorem kiW {win most siz:Int} {told last:Bool} {b b':List Int} {k k':Nat} {F F':FS} (h:Ag b b' b'.length) (hk:ka6 win most siz told b k F=.ok last k' F') (hkb:k≤b'.length) (hm:b'.length<k'):ka6 win most siz told b' k F=.bad 10:=by
 have l1:=h.l1;unfold ka6 at hk ⊢
 split at hk
 ·cases hk
 by_cases h3:b'.length<k+3
 ·rw[if_pos h3]
 rw[if_neg h3];unfold khn at hk ⊢
 split at hk
 ·cases hk
 rename_i h2;split at hk
 ·cases hk
 have hle:k'=k+3+nB (kV (sg b k 3) 3):=by
  have hk2:=hk;unfold kd0 at hk2;repeat' split at hk2
  all_goals first|(cases hk2;rfl)|cases hk2
 have e1:sg b k 3=sg b' k 3:=h.sg (by omega);rw[←e1,if_neg h2,if_pos (by omega)]
theorem RunB.ag {win most siz:Int} {told:Bool} {b b':List Int} {m k k1:Nat} {F F1:FS} {e:Int} (hb:∀x∈b,kF x) (hF:kcp F) (h:Ag b b' m) (hr:RunB win most siz told b k F e k1 F1) (he:e=0) (hm:k1≤m):RunB win most siz told b' k F e k1 F1:=by
 induction hr with
 |bad h1=>subst he;have:=kdo h1;omega
 |last h1=>exact .last (khp h h1 hm)
 | next h1 h2 ih=>
  have h3:=kaL hb hF h1;refine .next (khp h h1 ?_) (ih h3.1 he hm)
  have hmono:∀{k k1:Nat} {F F1:FS} {e:Int},RunB win most siz told b k F e k1 F1→kcp F→k≤k1:=fun hr=>by
   induction hr with
   |bad _=>exact fun _=>Nat.le_refl _
   |last h1=>exact fun hF=>by have:=(kaL hb hF h1).2.2.2.1;omega
   |next h1 _ ih=>exact fun hF=>by have h4:=kaL hb hF h1;have:=ih h4.1;omega
  have:=hmono h2 h3.1;omega
theorem RunB.pre {win most siz:Int} {told:Bool} {b:List Int} {k k1:Nat} {F F1:FS} {e:Int} (hb:∀x∈b,kF x) (hr:RunB win most siz told b k F e k1 F1):kcp F→(∃x,F1.out=F.out++x)∧k≤k1∧(k≤b.length→k1≤b.length):=by
 induction hr with
 |bad _=>exact fun _=>⟨⟨[],by rw[List.append_nil]⟩,Nat.le_refl _,fun h=>h⟩
 |last h1=>exact fun hF=>by have h2:=kaL hb hF h1;exact⟨h2.2.1,by omega,fun _=>h2.2.2.2.2⟩
 |next h1 _ ih=>
  intro hF;have h2:=kaL hb hF h1;obtain⟨⟨x,hx⟩,h3,h4⟩:=ih h2.1;obtain⟨y,hy⟩:=h2.2.1;exact⟨⟨y++x,by rw[hx,hy,List.append_assoc]⟩,by omega,fun _=>h4 h2.2.2.2.2⟩
theorem RunB.cut {win most siz:Int} {told:Bool} {b b':List Int} {k k1:Nat} {F F1:FS} {e:Int} (hb:∀x∈b,kF x) (h:Ag b b' b'.length) (hr:RunB win most siz told b k F e k1 F1) (he:e=0) :
  kcp F→k≤b'.length→b'.length<k1→∃k2 F2,RunB win most siz told b' k F 10 k2 F2∧∃x,F1.out=F2.out++x:=by
 induction hr with
 |bad h1=>subst he;have:=kdo h1;omega
 |last h1=>
  intro hF hk hm;exact⟨_,_,.bad (kiW h h1 hk hm),(kaL hb hF h1).2.1⟩
 | @next k k' k2 F F' F2 e h1 h2 ih=>
  intro hF hk hm;have h3:=kaL hb hF h1;by_cases hk':k'≤b'.length
  ·obtain⟨k3,F3,h4,h5⟩:=ih he h3.1 hk' hm;exact⟨k3,F3,.next (khp h h1 hk') h4,h5⟩
  ·refine⟨_,_,.bad (kiW h h1 hk (by omega)),?_⟩
   obtain⟨x,hx⟩:=(h2.pre hb h3.1).1;obtain⟨y,hy⟩:=h3.2.1;exact⟨y++x,by rw[hx,hy,List.append_assoc]⟩
theorem kcn {b:List Int} {bud:Int} {k:Nat} {win most siz:Int} {told sm:Bool} (h:hdP b bud=.frm k win most siz told sm) :
  ¬b.length<4∧¬kV (sg b 0 4) 4-kV (sg b 0 4) 4 % 16=407710288∧¬kV (sg b 0 4) 4≠4247762216∧¬b.length<5∧¬b.getD 4 0 / 8 % 2=1∧¬b.length<5+(wdN (b.getD 4 0)+jR (b.getD 4 0)+sz1 (b.getD 4 0)) ∧
  ¬kV (sg b (5+wdN (b.getD 4 0)) (jR (b.getD 4 0))) (jR (b.getD 4 0))≠0∧¬min (max bud 0) 16777216<ka3 b (b.getD 4 0)∧k=5+(wdN (b.getD 4 0)+jR (b.getD 4 0)+sz1 (b.getD 4 0)) ∧
  HdR.frm (5+(wdN (b.getD 4 0)+jR (b.getD 4 0)+sz1 (b.getD 4 0))) (ka3 b (b.getD 4 0)) (min (ka3 b (b.getD 4 0)) 131072) (khj b (b.getD 4 0)) (decide (0<sz1 (b.getD 4 0))) (decide (b.getD 4 0 / 4 % 2=1))=.frm k win most siz told sm:=by
 unfold hdP at h;by_cases h1:b.length<4
 ·rw[if_pos h1] at h;cases h
 rw[if_neg h1] at h;by_cases h2:kV (sg b 0 4) 4-kV (sg b 0 4) 4 % 16=407710288
 ·rw[if_pos h2] at h;split at h<;>cases h
 rw[if_neg h2] at h;by_cases h3:kV (sg b 0 4) 4≠4247762216
 ·rw[if_pos h3] at h;cases h
 rw[if_neg h3] at h;by_cases h4:b.length<5
 ·rw[if_pos h4] at h;cases h
 rw[if_neg h4] at h;by_cases h5:b.getD 4 0 / 8 % 2=1
 ·rw[if_pos h5] at h;cases h
 rw[if_neg h5] at h;by_cases h6:b.length<5+(wdN (b.getD 4 0)+jR (b.getD 4 0)+sz1 (b.getD 4 0))
 ·rw[if_pos h6] at h;cases h
 rw[if_neg h6] at h;by_cases h7:kV (sg b (5+wdN (b.getD 4 0)) (jR (b.getD 4 0))) (jR (b.getD 4 0))≠0
 ·rw[if_pos h7] at h;cases h
 rw[if_neg h7] at h;by_cases h8:min (max bud 0) 16777216<ka3 b (b.getD 4 0)
 ·rw[if_pos h8] at h;cases h
 rw[if_neg h8] at h;exact⟨h1,h2,h3,h4,h5,h6,h7,h8,by cases h;rfl,h⟩
theorem kb4 {b:List Int} {bud s:Int} (h:hdP b bud=.skip s):¬b.length<4∧kV (sg b 0 4) 4-kV (sg b 0 4) 4 % 16=407710288∧¬b.length<8∧s=1+kV (sg b 4 4) 4:=by
 unfold hdP at h;by_cases h1:b.length<4
 ·rw[if_pos h1] at h;cases h
 rw[if_neg h1] at h;by_cases h2:kV (sg b 0 4) 4-kV (sg b 0 4) 4 % 16=407710288
 ·rw[if_pos h2] at h;by_cases h3:b.length<8
  ·rw[if_pos h3] at h;cases h
  ·rw[if_neg h3] at h;cases h;exact⟨h1,h2,h3,rfl⟩
 rw[if_neg h2] at h;repeat' split at h
 all_goals cases h
theorem kkC {b b':List Int} {m:Nat} (h:Ag b b' m) {d:Int} (hm:5+(wdN d+jR d+sz1 d)≤m):khj b d=khj b' d:=by
 unfold khj;rw[h.sg (by omega)]
theorem kpA {b b':List Int} {m:Nat} (h:Ag b b' m) {d:Int} (hm:5+(wdN d+jR d+sz1 d)≤m):ka3 b d=ka3 b' d:=by
 unfold ka3;rw[kkC h hm];by_cases hw:wdN d=1
 ·rw[if_pos hw,if_pos hw,h.get (by omega)]
 ·rw[if_neg hw,if_neg hw]
theorem kn6 {b b':List Int} {bud:Int} {k m:Nat} {win most siz:Int} {told sm:Bool} (hg:Ag b b' m) (h:hdP b bud=.frm k win most siz told sm) (hk:k≤m):hdP b' bud=.frm k win most siz told sm:=by
 obtain⟨h1,h2,h3,h4,h5,h6,h7,h8,rfl,h9⟩:=kcn h;have l2:=hg.l2;have e0:=hg.sg (k:=0) (n:=4) (by omega);have e4:=hg.get (k:=4) (by omega);have e5:=hg.sg (k:=5+wdN (b.getD 4 0)) (n:=jR (b.getD 4 0)) (by omega);have e6:=kpA hg (d:=b.getD 4 0) hk;have e7:=kkC hg (d:=b.getD 4 0) hk;unfold hdP;rw[←e4,←e0,←e5,←e6,←e7,if_neg (by omega),if_neg h2,if_neg h3,if_neg (by omega),if_neg h5,if_neg (by omega),if_neg h7,if_neg h8];exact h9
theorem kpB {b b':List Int} {bud:Int} {k:Nat} {win most siz:Int} {told sm:Bool} (hg:Ag b b' b'.length) (h:hdP b bud=.frm k win most siz told sm) (hk:b'.length<k):hdP b' bud=.err 10:=by
 obtain⟨h1,h2,h3,h4,h5,h6,h7,h8,rfl,h9⟩:=kcn h;unfold hdP;by_cases c1:b'.length<4
 ·rw[if_pos c1]
 have e0:=hg.sg (k:=0) (n:=4) (by omega);rw[if_neg c1,←e0,if_neg h2,if_neg h3];by_cases c2:b'.length<5
 ·rw[if_pos c2]
 have e4:=hg.get (k:=4) (by omega);rw[if_neg c2,←e4,if_neg h5,if_pos hk]
theorem keo {b b':List Int} {bud s:Int} {m:Nat} (hg:Ag b b' m) (h:hdP b bud=.skip s) (hm:8≤m):hdP b' bud=.skip s:=by
 obtain⟨h1,h2,h3,rfl⟩:=kb4 h;have l2:=hg.l2;have e0:=hg.sg (k:=0) (n:=4) (by omega);have e4:=hg.sg (k:=4) (n:=4) (by omega);unfold hdP;rw[←e0,←e4,if_neg (by omega),if_pos h2,if_neg (by omega)]
theorem khq {b b':List Int} {bud s:Int} (hg:Ag b b' b'.length) (h:hdP b bud=.skip s) (hm:b'.length<8):hdP b' bud=.err 10:=by
 obtain⟨h1,h2,h3,rfl⟩:=kb4 h;unfold hdP;by_cases c1:b'.length<4
 ·rw[if_pos c1]
 have e0:=hg.sg (k:=0) (n:=4) (by omega);rw[if_neg c1,←e0,if_pos h2,if_pos hm]
theorem kb5 {b:List Int} {bud bud':Int} (h:hdP b bud≠.err 40) (hb:bud≤bud'):hdP b bud'=hdP b bud:=by
 unfold hdP at h ⊢
 by_cases h1:b.length<4
 ·simp only[if_pos h1]
 simp only[if_neg h1] at h ⊢
 by_cases h2:kV (sg b 0 4) 4-kV (sg b 0 4) 4 % 16=407710288
 ·simp only[if_pos h2]
 simp only[if_neg h2] at h ⊢
 by_cases h3:kV (sg b 0 4) 4≠4247762216
 ·simp only[if_pos h3]
 simp only[if_neg h3] at h ⊢
 by_cases h4:b.length<5
 ·simp only[if_pos h4]
 simp only[if_neg h4] at h ⊢
 by_cases h5:b.getD 4 0 / 8 % 2=1
 ·simp only[if_pos h5]
 simp only[if_neg h5] at h ⊢
 by_cases h6:b.length<5+(wdN (b.getD 4 0)+jR (b.getD 4 0)+sz1 (b.getD 4 0))
 ·simp only[if_pos h6]
 simp only[if_neg h6] at h ⊢
 by_cases h7:kV (sg b (5+wdN (b.getD 4 0)) (jR (b.getD 4 0))) (jR (b.getD 4 0))≠0
 ·simp only[if_pos h7]
 simp only[if_neg h7] at h ⊢
 by_cases h8:min (max bud 0) 16777216<ka3 b (b.getD 4 0)
 ·rw[if_pos h8] at h;exact absurd rfl h
 have h9:¬min (max bud' 0) 16777216<ka3 b (b.getD 4 0):=by omega
 rw[if_neg h8,if_neg h9]
theorem kqK {b:List Int} {bud:Int} (h:hdP b bud=.err 40):hdP b 16777216=.err 40∨∃k win most siz told sm,hdP b 16777216=.frm k win most siz told sm∧max bud 0<win:=by
 unfold hdP at h ⊢
 repeat' split at h
 all_goals first|(exfalso;revert h;simp;done)|skip
 rename_i h1 h2 h3 h4 h5 h6 h7 h8;rw[if_neg h1,if_neg h2,if_neg h3,if_neg h4,if_neg h5,if_neg h6,if_neg h7];by_cases h9:min (max (16777216:Int) 0) 16777216<ka3 b (b.getD 4 0)
 ·exact .inl (if_pos h9)
 ·rw[if_neg h9];exact .inr ⟨_,_,_,_,_,_,rfl,by omega⟩
theorem kpC {b:List Int} (hb:∀x∈b,kF x) (k n:Nat):0≤kV (sg b k n) n:=(kY (qr hb k n) n).1
theorem kpX {b:List Int} {bud:Int} {k:Nat} {win most siz:Int} {told sm:Bool} (h:hdP b bud=.frm k win most siz told sm):k≤b.length:=by
 obtain⟨h1,h2,h3,h4,h5,h6,h7,h8,rfl,h9⟩:=kcn h;omega
theorem kdp {b:List Int} {siz:Int} {told sm:Bool} {k:Nat} {out:List Int} {n e:Int} (h:kbB b siz told sm k out=(n,e)):(e≠0→n=0∧(e=10∨e=11))∧(e=0→¬(told=true∧(out.length:Int)≠siz)∧((sm=false∧n=k)∨(sm=true∧¬b.length<k+4∧¬kV (sg b k 4) 4≠bV .and .u64 (kdZ out) 4294967295∧n=(k:Int)+4))):=by
 unfold kbB at h;by_cases h1:told=true∧(out.length:Int)≠siz
 ·rw[if_pos h1] at h;cases h;exact⟨fun _=>⟨rfl,.inr rfl⟩,fun h=>absurd h (by decide)⟩
 rw[if_neg h1] at h;cases sm with
 |false=>rw[if_pos rfl] at h;cases h;exact⟨fun h=>absurd rfl h,fun _=>⟨h1,.inl ⟨rfl,rfl⟩⟩⟩
 |true=>
  rw[if_neg (by decide)] at h;by_cases h2:b.length<k+4
  ·rw[if_pos h2] at h;cases h;exact⟨fun _=>⟨rfl,.inl rfl⟩,fun h=>absurd h (by decide)⟩
  rw[if_neg h2] at h;by_cases h3:kV (sg b k 4) 4≠bV .and .u64 (kdZ out) 4294967295
  ·rw[if_pos h3] at h;cases h;exact⟨fun _=>⟨rfl,.inr rfl⟩,fun h=>absurd h (by decide)⟩
  rw[if_neg h3] at h;cases h
  exact⟨fun h=>absurd rfl h,fun _=>⟨h1,.inr ⟨rfl,h2,h3,rfl⟩⟩⟩
theorem kpD {b b':List Int} {siz:Int} {told sm:Bool} {k m:Nat} {out:List Int} {n:Int} (hg:Ag b b' m) (h:kbB b siz told sm k out=(n,0)) (hn:n≤m):kbB b' siz told sm k out=(n,0):=by
 obtain⟨_,h2⟩:=kdp h;obtain⟨h1,⟨rfl,rfl⟩|⟨rfl,h3,h4,rfl⟩⟩:=h2 rfl
 ·unfold kbB;rw[if_neg h1,if_pos rfl]
 ·have l2:=hg.l2;have e:=hg.sg (k:=k) (n:=4) (by omega);unfold kbB;rw[if_neg h1,if_neg (by decide),if_neg (by omega),←e,if_neg h4]
theorem MemR.code {b out:List Int} {bud n e:Int} (h:MemR b bud out n e) (he:e≠0):n=0:=by
 cases h with
 |err h=>rfl
 |skipb h hs=>rfl
 |skip h hs=>exact absurd rfl he
 |bad h hr _=>rfl
 |fin h hr he'=>exact((kdp he').1 he).1
theorem MemR.behind {b c out:List Int} {bud n:Int} (hb:∀x∈b,kF x) (h:MemR b bud out n 0):1≤n∧n≤b.length∧MemR (b++c) bud out n 0:=by
 have hg:Ag b (b++c) b.length:=⟨Nat.le_refl _,by rw[List.length_append];omega,by rw[List.take_append_of_le_length (Nat.le_refl _)]⟩;have hl:(b++c).length=b.length+c.length:=List.length_append;generalize he:(0:Int)=e at h;cases h with
 |err h=>
  exfalso
  subst he;unfold hdP at h;repeat' split at h
  all_goals cases h
 |skipb h hs=>cases he
 |@skip s h hs=>
  obtain⟨h1,h2,h3,h4⟩:=kb4 h;have:=kpC hb 4 4;refine⟨by omega,by omega,.skip (keo hg h (by omega)) (by rw[hl];omega)⟩
 |bad h hr he'=>exact absurd he.symm he'
 | @fin k0 _ _ _ _ _ _ _ _ _ h hr he'=>
  subst he;have hk:=kpX h;obtain⟨h1,h2,h3⟩:=hr.pre hb kiV;have h4:=h3 hk;have h5:5≤k0:=by obtain⟨_,_,_,_,_,_,_,_,h5,_⟩:=kcn h;omega
  have hn:1≤n∧n≤b.length:=by
   obtain⟨_,⟨_,rfl⟩|⟨_,h5,_,rfl⟩⟩:=(kdp he').2 rfl
   ·omega
   ·omega
  exact⟨hn.1,hn.2,.fin (kn6 hg h hk) (hr.ag hb kiV hg rfl h4) (kpD hg he' hn.2)⟩
theorem MemR.cut {b out:List Int} {bud n:Int} (hb:∀x∈b,kF x) (h:MemR b bud out n 0) {j:Nat} (hj:(j:Int)<n) (hjb:j≤b.length):∃own,MemR (b.take j) bud own 0 10∧∃x,out=own++x:=by
 have hlj:(b.take j).length=j:=by rw[List.length_take];omega
 have hg:Ag b (b.take j) (b.take j).length:=⟨by omega,Nat.le_refl _,by rw[hlj,List.take_take,Nat.min_self]⟩;generalize he:(0:Int)=e at h;cases h with
 | err h=>exact⟨[],by
   exfalso
   subst he;unfold hdP at h;repeat' split at h
   all_goals cases h⟩
 |skipb h hs=>cases he
 |@skip s h hs=>
  by_cases h8:j<8
  ·exact⟨[],.err (khq hg h (by omega)),[],rfl⟩
  ·exact⟨[],.skipb (keo hg h (by omega)) (by omega),[],rfl⟩
 |bad h hr he'=>exact absurd he.symm he'
 | @fin k k' win most siz _ _ told sm F h hr he'=>
  subst he;by_cases hk:j<k
  ·exact⟨[],.err (kpB hg h (by omega)),_,rfl⟩
  have hh:=kn6 hg h (by omega);by_cases hk':j<k'
  ·obtain⟨k2,F2,h1,x,hx⟩:=hr.cut hb hg rfl kiV (by omega) (by omega);exact⟨F2.out,.bad hh h1 (by decide),x,hx⟩
  ·have hr':=hr.ag hb kiV hg rfl (by omega);refine⟨F.out,.fin hh hr' ?_,[],by rw[List.append_nil]⟩
   obtain⟨h1,⟨rfl,rfl⟩|⟨rfl,h3,h4,rfl⟩⟩:=(kdp he').2 rfl
   ·omega
   ·unfold kbB;rw[if_neg h1,if_neg (by decide),if_pos (by omega)]
theorem MemR.room {b out:List Int} {bud n e more:Int} (h:MemR b bud out n e):(e=40→out=[]∧hdP b bud=.err 40)∧(e≠40→MemR b (max bud more) out n e):=by
 cases h with
 |err h=>exact⟨fun he=>⟨rfl,by rw[h,he]⟩,fun he=>.err (by rw[kb5 (by rw[h];intro h2;cases h2;exact he rfl) (by omega)];exact h)⟩
 |skipb h hs=>exact⟨fun he=>absurd he (by decide),fun _=>.skipb (by rw[kb5 (by rw[h];intro h2;cases h2) (by omega)];exact h) hs⟩
 |skip h hs=>exact⟨fun he=>absurd he (by decide),fun _=>.skip (by rw[kb5 (by rw[h];intro h2;cases h2) (by omega)];exact h) hs⟩
 |bad h hr he'=>exact⟨fun he=>by have:=hr.codes;omega,fun _=>.bad (by rw[kb5 (by rw[h];intro h2;cases h2) (by omega)];exact h) hr he'⟩
 |fin h hr he'=>exact⟨fun he=>by have:=(kdp he').1 (by omega);omega,fun _=>.fin (by rw[kb5 (by rw[h];intro h2;cases h2) (by omega)];exact h) hr he'⟩
end Go.Proofs.Ytlclleihoampdaa
