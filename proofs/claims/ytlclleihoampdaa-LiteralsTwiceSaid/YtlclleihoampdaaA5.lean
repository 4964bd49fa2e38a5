import Derived.Test.YtlclleihoampdaaEX
import Derived.Test.YtlclleihoampdaaA1
import Derived.Test.YtlclleihoampdaaED
import Derived.Test.YtlclleihoampdaaA3
import Derived.Test.YtlclleihoampdaaA2
import Derived.Test.YtlclleihoampdaaA4
set_option linter.unusedVariables false
set_option linter.unusedSimpArgs false
namespace Go.Proofs.Ytlclleihoampdaa
open Go Go.Sx Go.Proofs
set_option maxRecDepth 100000 in
set_option maxHeartbeats 4000000 in
theorem khF (N:Nat) (A B C:Nat→Int) (s:Int) (z:Bool) (cap:Nat) (hN4:N≤4096) :
  Con Try.prog 107 [.slice 0 .z 3 N cap,.int .u8 s,.bool z] [.roA 3 N (fun m=>[.int .u8 (A m),.int .u8 (B m),.int .u16 (C m)])]
   (fun v H R=>R=[]∧H=[.roA 3 N (fun m=>[.int .u8 (A m),.int .u8 (B m),.int .u16 (C m)])] ∧
    ((∃(ki:Int) (k:Nat),v=.tup [.int .i64 ki,.bool true]∧ki=k∧k<N∧A k=s∧(z=true→0<B k))∨(v=.tup [.int .i64 0,.bool false]∧∀k,k<N→A k=s→z=true∧¬0<B k))):=by
 refine kj (kA 1 (by simp) (km (kg kr krt ?_)))
 intro vb vc _ vtoN _ vaddN _ _ _ _ _ _ _ _ _ _ _ _ _ vnotB _ hw qb qc _ qtoN qofN qaddN _ _ _ _ _ _ _ _ _ _ _ _ _ qnotB _;have hm:=kr;generalize Try.prog=P at *;have hto:∀i:Nat,vtoN (i:Int)=i:=fun i=>by simp only[qtoN,Int.toNat_natCast]
 have hadd0:∀i,vaddN 0 i=i:=fun i=>by simp only[qaddN,Nat.zero_add]
 have hnt:vnotB true=false:=by rw[qnotB];rfl
 have hnf:vnotB false=true:=by rw[qnotB];rfl
 cases z
 ·cbv;refine kl (α:=Int) ([8,9]++(List.range' 13 19)) [] (fun k=>[(12,.int .i64 k)]) (fun _=>[]) (fun k=>∃i:Nat,k=i∧i≤N∧∀j,j<i→A j=s→false=true∧¬0<B j) (fun k=>N-k.toNat) hw hm ?_ ?_
  ·refine Cv.genAt [12] [] (Cv.fold ([8,9]++(List.range' 13 19)) 1 [] (by exact Nat.le_refl _) (by exact Nat.le_of_ble_eq_true rfl) (by rfl) (by cbv) ?_)
   intro js;refine⟨_,?_,js,rfl⟩
   exact⟨0,rfl,by omega,fun j hj=>absurd hj (by omega)⟩
  ·rintro k js ⟨i,hk,hi,hj⟩;cbv;split
   ·rename_i hlt;have hlt:i<N:=by rw[qc,kf] at hlt;simp only[qofN] at hlt;simp only[nc] at *;omega
    have hti:vtoN k=i:=by rw[hk];exact hto i
    have hinR:0≤k∧k<(N:Int):=by simp only[nc] at *;omega
    obtain⟨k1,hk1⟩:∃k1:Int,k1=((i+1:Nat):Int):=⟨_,rfl⟩;have ek:vb .add .i64 k 1=k1:=by simp only[nc] at *;rw[qb,kh (by omega) (by omega)];omega
    have hmu:N-k1.toNat<N-k.toNat:=by simp only[nc] at *;omega
    have hAs:vc .eql (A i) s=decide (A i=s):=by rw[qc];rfl
    have hloop:(A i=s→false=true∧¬0<B i)→(∃i:Nat,k1=i∧i≤N∧∀j,j<i→A j=s→false=true∧¬0<B j)∧N-k1.toNat<N-k.toNat:=fun h=>
     ⟨⟨i+1,hk1,hlt,fun j hj1 hj2=>by
      by_cases he:j=i
      ·subst he;exact h hj2
      ·exact hj j (by omega) hj2⟩,hmu⟩
    cbv;rw[hti];refine⟨⟨hinR⟩,⟨by rw[hadd0];omega⟩,⟨by omega⟩,⟨by omega⟩,⟨by omega⟩,fun _=>rfl,?_⟩
    by_cases hA:A i=s
    ·rw[show vc .eql (A i) s=true by rw[hAs];simp[hA]];cbv;rw[hnf];cbv;exact .inl ⟨k,i,rfl,hk,hlt,hA,fun h=>by cases h⟩
    ·rw[show vc .eql (A i) s=false by rw[hAs];simp[hA]];cbv;rw[ek];refine Cv.fold ([8,9]++(List.range' 13 19)) 1 [] (by exact Nat.le_refl _) (by exact Nat.le_of_ble_eq_true rfl) (by rfl) (by cbv) ?_
     intro js;exact⟨_,hloop (fun h=>absurd h hA),js,rfl⟩
   ·rename_i hlt;have hin:i=N:=by rw[qc,ke] at hlt;simp only[qofN] at hlt;simp only[nc] at *;omega
    subst hin;cbv;exact .inr hj
 ·cbv;refine kl (α:=Int) ([8,9]++(List.range' 13 19)) [] (fun k=>[(12,.int .i64 k)]) (fun _=>[]) (fun k=>∃i:Nat,k=i∧i≤N∧∀j,j<i→A j=s→true=true∧¬0<B j) (fun k=>N-k.toNat) hw hm ?_ ?_
  ·refine Cv.genAt [12] [] (Cv.fold ([8,9]++(List.range' 13 19)) 1 [] (by exact Nat.le_refl _) (by exact Nat.le_of_ble_eq_true rfl) (by rfl) (by cbv) ?_)
   intro js;refine⟨_,?_,js,rfl⟩
   exact⟨0,rfl,by omega,fun j hj=>absurd hj (by omega)⟩
  ·rintro k js ⟨i,hk,hi,hj⟩;cbv;split
   ·rename_i hlt;have hlt:i<N:=by rw[qc,kf] at hlt;simp only[qofN] at hlt;simp only[nc] at *;omega
    have hti:vtoN k=i:=by rw[hk];exact hto i
    have hinR:0≤k∧k<(N:Int):=by simp only[nc] at *;omega
    obtain⟨k1,hk1⟩:∃k1:Int,k1=((i+1:Nat):Int):=⟨_,rfl⟩;have ek:vb .add .i64 k 1=k1:=by simp only[nc] at *;rw[qb,kh (by omega) (by omega)];omega
    have hmu:N-k1.toNat<N-k.toNat:=by simp only[nc] at *;omega
    have hAs:vc .eql (A i) s=decide (A i=s):=by rw[qc];rfl
    have hloop:(A i=s→true=true∧¬0<B i)→(∃i:Nat,k1=i∧i≤N∧∀j,j<i→A j=s→true=true∧¬0<B j)∧N-k1.toNat<N-k.toNat:=fun h=>
     ⟨⟨i+1,hk1,hlt,fun j hj1 hj2=>by
      by_cases he:j=i
      ·subst he;exact h hj2
      ·exact hj j (by omega) hj2⟩,hmu⟩
    cbv;rw[hti];refine⟨⟨hinR⟩,⟨by rw[hadd0];omega⟩,⟨by omega⟩,⟨by omega⟩,⟨by omega⟩,fun _=>rfl,?_⟩
    by_cases hA:A i=s
    ·rw[show vc .eql (A i) s=true by rw[hAs];simp[hA]];cbv;rw[hnt];cbv;by_cases hB:0<B i
     ·rw[show vc .gtr (B i) 0=true by rw[qc,kz];exact hB];cbv;exact .inl ⟨k,i,rfl,hk,hlt,hA,fun _=>hB⟩
     ·rw[show vc .gtr (B i) 0=false by rw[qc,ku];exact hB];cbv;rw[ek];refine Cv.fold ([8,9]++(List.range' 13 19)) 1 [] (by exact Nat.le_refl _) (by exact Nat.le_of_ble_eq_true rfl) (by rfl) (by cbv) ?_
      intro js;exact⟨_,hloop (fun _=>⟨rfl,hB⟩),js,rfl⟩
    ·rw[show vc .eql (A i) s=false by rw[hAs];simp[hA]];cbv;rw[ek];refine Cv.fold ([8,9]++(List.range' 13 19)) 1 [] (by exact Nat.le_refl _) (by exact Nat.le_of_ble_eq_true rfl) (by rfl) (by cbv) ?_
     intro js;exact⟨_,hloop (fun h=>absurd h hA),js,rfl⟩
   ·rename_i hlt;have hin:i=N:=by rw[qc,ke] at hlt;simp only[qofN] at hlt;simp only[nc] at *;omega
    subst hin;cbv;exact .inr hj
set_option maxRecDepth 100000
set_option maxHeartbeats 40000000
def kcT (A B C:Nat→Int) (s next:Int) (k:Nat):Prop:=A k=s∧C k≤next∧next-C k<2^(B k).toNat
theorem km1 (N:Nat) (A B C:Nat→Int) (s next:Int) (cap:Nat) (hN4:N≤4096) (hbnd:∀k,k<N→0≤B k∧B k≤12∧0≤C k∧C k<4096) (hn:0≤next∧next<4096) :
  Con Try.prog 28 [.slice 0 .z 3 N cap,.int .u8 s,.int .i64 next] [.roA 3 N (fun m=>[.int .u8 (A m),.int .u8 (B m),.int .u16 (C m)])]
   (fun v H R=>R=[]∧H=[.roA 3 N (fun m=>[.int .u8 (A m),.int .u8 (B m),.int .u16 (C m)])]∧((∃(ki:Int) (k:Nat),v=.tup [.int .i64 ki,.bool true]∧ki=k∧k<N∧kcT A B C s next k)∨(v=.tup [.int .i64 0,.bool false]∧∀k,k<N→¬kcT A B C s next k))):=by
 refine kj (kA 1 (by simp) (km (kg kr krY ?_)))
 intro vb vc vw vtoN _ vaddN _ _ _ _ _ _ _ _ _ _ _ _ _ _ _ hw qb qc qw qtoN qofN qaddN _ _ _ _ _ _ _ _ _ _ _ _ _ _ _;have hm:=kr;generalize Try.prog=P at *;have hto:∀i:Nat,vtoN (i:Int)=i:=fun i=>by simp only[qtoN,Int.toNat_natCast]
 have hadd0:∀i,vaddN 0 i=i:=fun i=>by simp only[qaddN,Nat.zero_add]
 cbv;refine kl (α:=Int) ([8,9]++(List.range' 13 34)) [] (fun k=>[(12,.int .i64 k)]) (fun _=>[]) (fun k=>∃i:Nat,k=i∧i≤N∧∀j,j<i→¬kcT A B C s next j) (fun k=>N-k.toNat) hw hm ?_ ?_
 ·refine Cv.genAt [12] [] (Cv.fold ([8,9]++(List.range' 13 34)) 1 [] (by exact Nat.le_refl _) (by exact Nat.le_of_ble_eq_true rfl) (by rfl) (by cbv) ?_)
  intro js;exact⟨_,⟨0,rfl,by omega,fun j hj=>absurd hj (by omega)⟩,js,rfl⟩
 ·rintro k js ⟨i,hk,hi,hno⟩;cbv;split
  ·rename_i hlt;have hlt:i<N:=by rw[qc,kf] at hlt;simp only[qofN] at hlt;simp only[nc] at *;omega
   have hti:vtoN k=i:=by rw[hk];exact hto i
   have hinR:0≤k∧k<(N:Int):=by simp only[nc] at *;omega
   obtain⟨k1,hk1⟩:∃k1:Int,k1=((i+1:Nat):Int):=⟨_,rfl⟩;have ek:vb .add .i64 k 1=k1:=by simp only[nc] at *;rw[qb,kh (by omega) (by omega)];omega
   have hmu:N-k1.toNat<N-k.toNat:=by simp only[nc] at *;omega
   obtain⟨q1,q2,q3,q4⟩:=hbnd i hlt;have hwC:vw .i64 (C i)=C i:=by rw[qw];exact wrap_i64 (by omega) (by omega)
   have hwB:vw .u64 (B i)=B i:=by rw[qw];exact wrap_u64 (by omega) (by omega)
   have hB61:vc .gtr (B i) 61=false:=by rw[qc,ku];omega
   have hsh:vb .shl .i64 1 (B i)=2^(B i).toNat:=by rw[qb,kdg (by omega) (by omega)]
   have hsub:vb .sub .i64 next (C i)=next-C i:=by rw[qb,ky (by omega) (by omega)]
   have hAs:vc .eql (A i) s=decide (A i=s):=by rw[qc];rfl
   have hloop:¬kcT A B C s next i→(∃i:Nat,k1=i∧i≤N∧∀j,j<i→¬kcT A B C s next j)∧N-k1.toNat<N-k.toNat:=fun h=>⟨⟨i+1,hk1,hlt,fun j hj=>by
    by_cases he:j=i
    ·subst he;exact h
    ·exact hno j (by omega)⟩,hmu⟩
   have hhit:A i=s→C i≤next→next-C i<2^(B i).toNat→kcT A B C s next i:=fun h1 h2 h3=>⟨h1,h2,h3⟩
   have hn1:¬A i=s→¬kcT A B C s next i:=fun h hh=>h hh.1
   have hn2:¬C i≤next→¬kcT A B C s next i:=fun h hh=>h hh.2.1
   have hn3:¬next-C i<2^(B i).toNat→¬kcT A B C s next i:=fun h hh=>h hh.2.2
   generalize kcT A B C s next=HT at *;cbv;rw[hti];refine⟨⟨hinR⟩,⟨by rw[hadd0];omega⟩,⟨by omega⟩,⟨by omega⟩,⟨by omega⟩,fun _=>rfl,?_⟩
   by_cases hA:A i=s
   ·rw[show vc .eql (A i) s=true by rw[hAs];simp[hA]];cbv;rw[hwC];by_cases hC:C i≤next
    ·rw[show vc .leq (C i) next=true by rw[qc,kbR];exact hC];cbv;rw[hB61];cbv;rw[hwC,hwB,hsub,hsh];by_cases hD:next-C i<2^(B i).toNat
     ·rw[show vc .lss (next-C i) (2^(B i).toNat)=true by rw[qc,kf];exact hD];cbv;refine⟨⟨q1⟩,?_⟩
      exact .inl ⟨k,i,rfl,hk,hlt,hhit hA hC hD⟩
     ·rw[show vc .lss (next-C i) (2^(B i).toNat)=false by rw[qc,ke];exact hD];cbv;refine⟨⟨q1⟩,?_⟩
      rw[ek];refine Cv.fold ([8,9]++(List.range' 13 34)) 1 [] (by exact Nat.le_refl _) (by exact Nat.le_of_ble_eq_true rfl) (by rfl) (by cbv) ?_
      intro js;exact⟨_,hloop (hn3 hD),js,rfl⟩
    ·rw[show vc .leq (C i) next=false by rw[qc,ka2];exact hC];cbv;rw[ek];refine Cv.fold ([8,9]++(List.range' 13 34)) 1 [] (by exact Nat.le_refl _) (by exact Nat.le_of_ble_eq_true rfl) (by rfl) (by cbv) ?_
     intro js;exact⟨_,hloop (hn2 hC),js,rfl⟩
   ·rw[show vc .eql (A i) s=false by rw[hAs];simp[hA]];cbv;rw[ek];refine Cv.fold ([8,9]++(List.range' 13 34)) 1 [] (by exact Nat.le_refl _) (by exact Nat.le_of_ble_eq_true rfl) (by rfl) (by cbv) ?_
    intro js;exact⟨_,hloop (hn1 hA),js,rfl⟩
  ·rename_i hlt;have hin:i=N:=by rw[qc,ke] at hlt;simp only[qofN] at hlt;simp only[nc] at *;omega
   subst hin;cbv;exact .inr hno
theorem kpK (bs l:List Int) (c n:Nat) (x k m:Int) (hx:0≤x∧x<2^64) (hk:0≤k∧k≤56) (h:WS bs l n m) (hl:bs.length≤2^40) :
  Con Try.prog 29 [.ptr 0 .z 2 0,.int .u64 x,.int .i64 k] [.one 71 [.slice 1 .z 1 n c,.int .i64 m],.buf 5 .u8 l c]
   (fun v H R=>R=[1]∧∃l' n' m' c',WS (bs++kC x k.toNat) l' n' m'∧v=.int .i64 0∧H=[.one 71 [.slice 1 .z 1 n' c',.int .i64 m'],.buf 5 .u8 l' c']):=by
 obtain⟨h1,rfl,rfl,rfl⟩:=h;obtain⟨j,rfl⟩:∃j:Nat,k=j:=⟨k.toNat,by omega⟩;refine kj ((khu bs c x j (by omega) hx h1 hl).mono ?_)
 rintro v H R ⟨rfl,rfl,c',rfl⟩;refine⟨rfl,_,_,_,c',⟨fun b hb=>?_,rfl,rfl,rfl⟩,rfl,rfl⟩
 rw[Int.toNat_natCast] at hb;rcases List.mem_append.1 hb with hb|hb
 ·exact h1 b hb
 ·exact jw _ _ b hb
theorem km2 (bs l:List Int) (c n:Nat) (m:Int) (h:WS bs l n m) (hl:bs.length≤2^40) :
  Con Try.prog 31 [.ptr 0 .z 2 0] [.one 71 [.slice 1 .z 1 n c,.int .i64 m],.buf 5 .u8 l c]
   (fun v H R=>R=[1]∧∃l' n' c',l'=pack (bs++[1])∧n'=l'.length∧v=.slice 1 .z 1 n' c'∧H=[.one 71 [.val (.slice none 0 0),.int .i64 0],.buf 5 .u8 l' c']):=by
 obtain⟨h1,rfl,rfl,rfl⟩:=h;refine(kgR bs c h1 hl).mono ?_
 rintro v H R ⟨rfl,c',rfl,rfl⟩;exact⟨rfl,_,_,c',rfl,rfl,rfl,rfl⟩
theorem kb2 (q:List Int) (i j:Nat) (y:Int):(q.set i y).getD j 0=y∧i=j∨(q.set i y).getD j 0=q.getD j 0:=by
 simp only[List.getD_eq_getElem?_getD,List.getElem?_set];split
 ·split
  ·exact .inl ⟨rfl,by assumption⟩
  ·right;rw[List.getElem?_eq_none (by omega)]
 ·exact .inr rfl
def kjw (c:Int):Prop:=0≤c∧c<4294967296
theorem kge {l:List Int} (h:∀x∈l,kjw x):∀i,0≤ka6 l i∧ka6 l i≤4294967295*i
 |0=>by simp[ka6,k7]
 |i+1=>by
  have ih:=kge h i;have hs:0≤l.getD i 0∧l.getD i 0<4294967296:=by rcases jZ (l:=l) i with hh|hh;exact h _ hh;omega
  simp only[ka6,k7] at *
  push_cast
  omega
set_option maxRecDepth 10000
theorem kkG (l:List Int) (log:Int) (cap:Nat) (hl:∀c∈l,kjw c) (hlog : -9223372036854775808≤log∧log≤9223372036854775807) (hlen:l.length≤9223372036854775807) :
  Con Try.prog 67 [.slice 0 .z 1 l.length cap,.int .i64 log] [.ro .u32 l] (fun v H R=>R=[]∧((¬khx l log∧v=.tup [.val (.slice none 0 0),.int .i64 2]∧H=[.ro .u32 l]) ∨
   (khx l log∧∃c,Fair l c log∧v=.tup [.slice 1 .z 1 c.length c.length,.int .i64 0]∧H=[.ro .u32 l,.ints 124 .i16 c]))):=by
 refine kj (km (kg kr ksa ?_))
 intro vb vc vw vtoN vofN vaddN _ _ _ _ vgd vst vln vrep _ _ _ _ _ _ _ hw qb qc qw qtoN qofN qaddN _ _ _ _ qgd qst qln qrep _ _ _ _ _ _ _;have hm:=kr;generalize Try.prog=P at *;have hA:khx l log↔(l.length≤256∧5≤log∧log≤12∧1≤qZ l l.length∧qZ l l.length≤2^log.toNat):=Iff.rfl;have hl0:∀x∈l,0≤x:=fun x hx=>(hl x hx).1
 have hfair:=fun out free all left best=>@kpm l out log free all left best hl0
 have hge:∀s,0≤l.getD s 0∧l.getD s 0<4294967296:=fun s=>by rcases jZ (l:=l) s with h|h;exact hl _ h;omega
 generalize Fair l=FA at *;have hml:=fun free all (hf:0≤free) (ha:0<all)=>khy (l:=l) (free:=free) (all:=all) hl0 hf ha
 generalize hAb:khx l log=AB at *;have hsn:=kfY l;have hss:∀i,qZ l (i+1)=qZ l i+kgm l i:=fun _=>rfl
 have hs0:qZ l 0=0:=rfl;have hpd:∀i,kgm l i=if l.getD i 0>0 then 1 else 0:=fun _=>rfl
 have hfs:∀i,ka6 l (i+1)=ka6 l i+l.getD i 0:=fun _=>rfl
 have hf0:ka6 l 0=0:=rfl;have hfr:=kge hl;have hlr:=kbW l;have hls:∀i:Nat,q9 l (i+1)=if l.getD i 0>0 then(i:Int) else q9 l i:=fun _=>rfl
 have hl00:q9 l 0=0:=rfl;have hlpos:=kd8 l;have hone:∀s n,s<n→l.getD s 0≤ka6 l n:=fun s n h=>kdl (f:=fun s=>l.getD s 0) (fun i _=>(hge i).1) h
 have hfm:∀q m,q≤m→ka6 l q≤ka6 l m:=fun q m h=>kcm (fun i _=>(hge i).1) h
 have hmd:∀free all s,kaN l free all s=if l.getD s 0=0 then 0 else l.getD s 0*free / all:=fun _ _ _=>rfl
 have hsd:∀free all s,qi l free all s=if l.getD s 0=0 then 0 else 1+l.getD s 0*free / all:=fun _ _ _=>rfl
 generalize qZ l=SN at *;generalize kgm l=PI at *;generalize ka6 l=SF at *;generalize q9 l=LP at *;generalize kaN l=MF at *;generalize qi l=SH at *;generalize hn:l.length=n at *;have hto:∀i:Nat,vtoN (i:Int)=i:=fun i=>by simp only[qtoN,Int.toNat_natCast]
 have hadd0:∀i,vaddN 0 i=i:=fun i=>by simp only[qaddN,Nat.zero_add]
 have hvln:vln l=n:=by simp only[qln,hn]
 have hvgd:∀i,vgd l i=l.getD i 0:=fun i=>by simp only[qgd]
 cbv;refine kl (α:=Int×Int×Int×Int) ([9,10]++[20,21,22,23,24,25,26,27,28,29,30,31,32,33]) [] (fun(k,m,a,la)=>[(19,.int .i64 k),(6,.int .i64 m),(7,.int .u64 a),(8,.int .i64 la)]) (fun _=>[])
  (fun(k,m,a,la)=>∃i:Nat,k=i∧i≤n∧m=SN i∧la=LP i∧(i≤256→a=SF i)) (fun(k,_)=>n-k.toNat) hw hm ?_ ?_
 ·refine Cv.genAt [19,6,7,8] [] (Cv.fold ([9,10]++[20,21,22,23,24,25,26,27,28,29,30,31,32,33]) 1 [] (by exact Nat.le_refl _) (by exact Nat.le_of_ble_eq_true rfl) (by rfl) (by cbv) ?_)
  intro js;refine⟨(_,_,_,_),?_,js,rfl⟩
  exact⟨0,rfl,by omega,hs0.symm,hl00.symm,fun _=>hf0.symm⟩
 ·rintro⟨k,m,a,la⟩ js ⟨i,hk,hi,hm1,hla,ha⟩;have hsi:=hsn i;cbv;split
  ·rename_i hlt;have hlt:i<n:=by rw[qc,kf] at hlt;simp only[qofN] at hlt;simp only[nc] at *;omega
   have hti:vtoN k=i:=by rw[hk];exact hto i
   have hinR:0≤k∧k<(n:Int):=by simp only[nc] at *;omega
   obtain⟨k1,hk1⟩:∃k1:Int,k1=((i+1:Nat):Int):=⟨_,rfl⟩;have ek:vb .add .i64 k 1=k1:=by simp only[nc] at *;rw[qb,kh (by omega) (by omega)];omega
   have em:vb .add .i64 m 1=m+1:=by simp only[nc] at *;rw[qb,kh (by omega) (by omega)]
   have hmu:n-k1.toNat<n-k.toNat:=by simp only[nc] at *;omega
   have hsi1:=hss i;have hls1:=hls i;have hfs1:=hfs i;have hgi:=hge i;have hfri:=hfr i;rw[hpd] at hsi1;cbv;rw[hti,hadd0,hvgd];refine⟨⟨hinR⟩,⟨by omega⟩,⟨by omega⟩,?_⟩
   generalize hci:l.getD i 0=ci at *;generalize hz:vc .gtr ci 0=z;cases z
   ·rw[qc,ku] at hz;rw[if_neg (by omega)] at hsi1 hls1;cbv;rw[ek];refine Cv.fold ([9,10]++[20,21,22,23,24,25,26,27,28,29,30,31,32,33]) 1 [] (by exact Nat.le_refl _) (by exact Nat.le_of_ble_eq_true rfl) (by rfl) (by cbv) ?_
    intro js;refine⟨(_,_,_,_),?_,js,rfl⟩
    exact⟨⟨i+1,hk1,hlt,by omega,by rw[hls1];exact hla,fun h=>by have:=ha (by omega);omega⟩,hmu⟩
   ·rw[qc,kz] at hz;rw[if_pos (by omega)] at hsi1 hls1;have ew:vw .u64 ci=ci:=by rw[qw];exact wrap_u64 (by omega) (by omega)
    cbv;rw[ek,em,ew];refine Cv.fold ([9,10]++[20,21,22,23,24,25,26,27,28,29,30,31,32,33]) 1 [] (by exact Nat.le_refl _) (by exact Nat.le_of_ble_eq_true rfl) (by rfl) (by cbv) ?_
    intro js;refine⟨(_,_,_,_),?_,js,rfl⟩
    refine⟨⟨i+1,hk1,hlt,by omega,by rw[hls1];exact hk,fun h=>?_⟩,hmu⟩
    have:=ha (by omega);simp only[nc] at *;rw[qb,kle (by omega) (by omega)];omega
  ·rename_i hge1;have hin:i=n:=by rw[qc,ke] at hge1;simp only[qofN] at hge1;simp only[nc] at *;omega
   subst hin;have hbad:¬AB→SV.tup [SV.val (Value.slice none 0 0),.lit .i64 2]=SV.tup [SV.val (Value.slice none 0 0),.lit .i64 2]:=fun _=>rfl
   cbv;generalize h1:vc .gtr (vofN i) 256=z1;cases z1
   rotate_left
   ·rw[qc,qofN,kz] at h1;cbv;exact .inl ⟨fun h=>by have:=(hA.1 h).1;simp only[nc] at *;omega,trivial⟩
   rw[qc,qofN,ku] at h1;cbv;generalize h2:vc .lss log 5=z2;cases z2
   rotate_left
   ·rw[qc,kf] at h2;cbv;exact .inl ⟨fun h=>by have:=(hA.1 h).2.1;omega,trivial⟩
   rw[qc,ke] at h2;cbv;generalize h3:vc .gtr log 12=z3;cases z3
   rotate_left
   ·rw[qc,kz] at h3;cbv;exact .inl ⟨fun h=>by have:=(hA.1 h).2.2.1;omega,trivial⟩
   rw[qc,ku] at h3;cbv;generalize h4:vc .eql m 0=z4;cases z4
   rotate_left
   ·rw[qc,kF] at h4;cbv;exact .inl ⟨fun h=>by have:=(hA.1 h).2.2.2.1;omega,trivial⟩
   rw[qc,kx] at h4;have e2:vw .u64 log=log:=by rw[qw];exact wrap_u64 (by omega) (by omega)
   have e3:vb .shl .i64 1 log=2^log.toNat:=by rw[qb,kcl (by omega) (by omega)]
   have hpl:=kaM (log:=log) (by omega);generalize hpw:(2:Int)^log.toNat=pw at *;cbv;rw[e2,e3];refine⟨⟨by omega⟩,?_⟩
   generalize h5:vc .gtr m pw=z5;cases z5
   rotate_left
   ·rw[qc,kz] at h5;cbv;exact .inl ⟨fun h=>by have:=(hA.1 h).2.2.2.2;omega,trivial⟩
   rw[qc,ku] at h5;have hAB:AB:=hA.2 ⟨by simp only[nc] at *;omega,by omega,by omega,by omega,by omega⟩;have ha:=ha (by simp only[nc] at *;omega);have hlri:=hlr i;have hlp:=hlpos i (by omega);obtain⟨Ln,hLn⟩:∃Ln:Nat,la+1=Ln:=⟨(la+1).toNat,by omega⟩;have e4:vb .add .i64 la 1=(Ln:Int):=by simp only[nc] at *;rw[qb,kh (by omega) (by omega)];omega
   have e5:vtoN (Ln:Int)=Ln:=hto Ln;obtain⟨free,hfree⟩:∃free:Int,free=pw-m:=⟨_,rfl⟩;have e6:vb .sub .i64 pw m=free:=by rw[qb,ky (by omega) (by omega)];omega
   have e7:vw .u64 free=free:=by rw[qw];exact wrap_u64 (by omega) (by omega)
   have e8:vrep Ln 0=List.replicate Ln 0:=by simp only[qrep]
   have hLni:Ln≤i:=by simp only[nc] at *;omega
   have hL1:1≤Ln:=by simp only[nc] at *;omega
   have hlaN:la.toNat+1=Ln:=by simp only[nc] at *;omega
   have hallp:0<a:=by
    have:=hone (LP i).toNat i (by simp only[nc] at *;omega);omega
   generalize hlz:((Ln:Nat):Int)=lz at *;cbv;rw[e4,e5,e2,e3,e6,e7,e8];obtain⟨rz,hrz⟩:∃rz:List Int,rz=List.replicate Ln (0:Int):=⟨_,rfl⟩;rw[←hrz];simp only[nc] at *;refine⟨⟨by omega⟩,⟨by omega⟩,⟨by omega⟩,⟨by omega⟩,⟨by omega⟩,?_⟩
   have hf0:0≤free:=by omega
   refine kl (α:=Int×Int×Int×List Int) ([15,16]++[70,71,72,73,74,75,76,77,78,79,80,81,82,83,84,85,86,87,88,89,90,91,92,93,94,95,96,97,98,99,100,101,102,103,104,105,106]) []
    (fun(k,le,be,out)=>[(69,.int .i64 k),(12,.int .i64 le),(14,.int .i64 be)])
    (fun(k,le,be,out)=>[(1,.ints 124 .i16 out)])
    (fun(k,le,be,out)=>∃q b:Nat,k=q∧q≤Ln∧be=b∧b<Ln∧0<l.getD b 0∧le=free-k7 (MF free a) q∧out.length=Ln∧∀s,out.getD s 0=if s<q then SH free a s else 0)
    (fun(k,le,be,out)=>Ln-k.toNat) hw hm ?_ ?_
   ·refine Cv.genAt [69] [] (Cv.fold ([15,16]++[70,71,72,73,74,75,76,77,78,79,80,81,82,83,84,85,86,87,88,89,90,91,92,93,94,95,96,97,98,99,100,101,102,103,104,105,106]) 2 [] (by exact Nat.le_refl _) (by exact Nat.le_of_ble_eq_true rfl) (by rfl) (by cbv) ?_)
    intro js;refine⟨(_,_,_,_),?_,js,rfl⟩
    refine⟨0,la.toNat,rfl,by omega,by omega,by omega,by rw[hla];exact hlp,by simp[k7],by rw[hrz];simp,fun s=>?_⟩
    rw[hrz,if_neg (by omega),List.getD_eq_getElem?_getD,List.getElem?_replicate];split<;>rfl
   ·rintro⟨k2,le,be,out⟩ js ⟨q,b,hk2,hq,hbe,hbL,hbp,hle,hol,hog⟩;have hvo:vln out=Ln:=by rw[qln];exact hol
    have htb:vtoN be=b:=by rw[hbe];exact hto b
    have hmq:=(hml free a hf0 hallp q);have hsq:k7 (MF free a) (q+1)=k7 (MF free a) q+MF free a q:=rfl;have hSle:k7 (MF free a) q≤free:=by
     have h1:=hfm q i (by omega);apply Classical.byContradiction
     intro h;have h2:a*(free+1)≤a*k7 (MF free a) q:=Int.mul_le_mul_of_nonneg_left (by omega) (by omega);have h3:free*SF q≤free*a:=Int.mul_le_mul_of_nonneg_left (by omega) hf0;rw[Int.mul_add,Int.mul_comm a free] at h2;omega
    cbv;split
    rotate_left
    ·rename_i hlt2;have hqe:q=Ln:=by rw[qc,ke] at hlt2;simp only[qofN] at hlt2;simp only[nc] at *;omega
     subst hqe;obtain⟨f1,f2,f3,f4,f5⟩:=hfair out free a le b hAB (by omega) ha (by omega) (fun s hs=>by rw[hog,if_pos (by omega)]) (by rw[hol];exact hle) (by omega) hbp;have hinb:0≤be∧be<(q:Int):=by simp only[nc] at *;omega
     have hgo:vgd out b=out.getD b 0:=by simp only[qgd]
     generalize hob:out.getD b 0=ob at *;have ew:vw .i16 le=le:=by rw[qw];exact kbX (by omega) (by omega)
     have ea:vb .add .i16 ob le=ob+le:=by rw[qb,kpp (by omega) (by omega)]
     obtain⟨out2,hout2⟩:∃out2:List Int,out2=out.set b (ob+le):=⟨_,rfl⟩;have est:vst out b (ob+le)=out2:=by rw[qst,hout2]
     have hol2:out2.length=q:=by rw[hout2,List.length_set];exact hol
     rw[←hout2] at f5;generalize hoe:ob+le=oe at *;clear hfair;cbv;rw[htb,hgo,ew,ea,est];refine⟨⟨hinb⟩,⟨by omega⟩,⟨hinb⟩,⟨by omega⟩,.inr ⟨hAB,out2,f5,?_,?_⟩⟩
     ·rw[hol2];rfl
     ·rfl
    ·rename_i hlt2;have hqe:q<Ln:=by rw[qc,kf] at hlt2;simp only[qofN] at hlt2;simp only[nc] at *;omega
     have htq:vtoN k2=q:=by rw[hk2];exact hto q
     have hin1:0≤k2∧k2<(i:Int):=by simp only[nc] at *;omega
     have hin2:0≤k2∧k2<(Ln:Int):=by simp only[nc] at *;omega
     have hin3:0≤be∧be<(i:Int):=by simp only[nc] at *;omega
     obtain⟨k3,hk3⟩:∃k3:Int,k3=((q+1:Nat):Int):=⟨_,rfl⟩;have ek:vb .add .i64 k2 1=k3:=by simp only[nc] at *;rw[qb,kh (by omega) (by omega)];omega
     have hmu:Ln-k3.toNat<Ln-k2.toNat:=by simp only[nc] at *;omega
     have hgq:=hge q;have hone1:=hone q i (by simp only[nc] at *;omega);have hmdq:=hmd free a q;have hsdq:=hsd free a q;cbv;rw[htq,hadd0,hvgd];refine⟨⟨hin1⟩,⟨by omega⟩,⟨by omega⟩,?_⟩
     generalize hz:vc .eql (l.getD q 0) 0=z;cases z
     rotate_left
     ·rw[qc,kF] at hz;rw[if_pos hz] at hmdq hsdq;cbv;rw[ek];refine Cv.fold ([15,16]++[70,71,72,73,74,75,76,77,78,79,80,81,82,83,84,85,86,87,88,89,90,91,92,93,94,95,96,97,98,99,100,101,102,103,104,105,106]) 2 [] (by exact Nat.le_refl _) (by exact Nat.le_of_ble_eq_true rfl) (by rfl) (by cbv) ?_
      intro js;refine⟨(_,_,_,_),?_,js,rfl⟩
      refine⟨⟨q+1,b,hk3,hqe,hbe,hbL,hbp,by rw[hsq,hmdq];omega,hol,fun s=>?_⟩,hmu⟩
      rw[hog];by_cases h:s<q
      ·rw[if_pos h,if_pos (by omega)]
      ·by_cases h2:s=q
       ·subst h2;rw[if_neg h,if_pos (by omega),hsdq]
       ·rw[if_neg h,if_neg (by omega)]
     ·rw[qc,kx] at hz;rw[if_neg hz] at hmdq hsdq;have hbl:=hge b;have hp0:0≤l.getD q 0*free:=Int.mul_nonneg hgq.1 hf0;have hp1:l.getD q 0*free≤4294967296*4096:=Int.mul_le_mul (by omega) (by omega) hf0 (by omega);have hp2:l.getD q 0*free / a≤free:=by
       have h1:l.getD q 0*free≤a*free:=Int.mul_le_mul_of_nonneg_right (by omega) hf0;have h2:=Int.ediv_le_ediv hallp h1;rw[Int.mul_ediv_cancel_left _ (by omega)] at h2;exact h2
      have hp3:=Int.ediv_nonneg hp0 (b:=a) (by omega);have ew:vw .u64 (l.getD q 0)=l.getD q 0:=by rw[qw];exact wrap_u64 (by omega) (by omega)
      have em:vb .mul .u64 (l.getD q 0) free=l.getD q 0*free:=by rw[qb,kpq (by omega) (by omega)]
      have eq1:vb .quo .u64 (l.getD q 0*free) a=l.getD q 0*free / a:=by rw[qb,kpr (by omega) (by omega) (by omega)]
      obtain⟨mo,hmo⟩:∃mo:Int,mo=l.getD q 0*free / a:=⟨_,rfl⟩;rw[←hmo] at hp2 hp3 eq1 hmdq hsdq;have ew2:vw .i64 mo=mo:=by rw[qw];exact wrap_i64 (by omega) (by omega)
      have ea:vb .add .i64 1 mo=1+mo:=by rw[qb,kh (by omega) (by omega)]
      have ew3:vw .i16 (1+mo)=1+mo:=by rw[qw];exact kbX (by omega) (by omega)
      have es:vb .sub .i64 le mo=le-mo:=by rw[qb,ky (by omega) (by omega)]
      obtain⟨out2,hout2⟩:∃out2:List Int,out2=out.set q (1+mo):=⟨_,rfl⟩;have est:vst out q (1+mo)=out2:=by rw[qst,hout2]
      have hol2:out2.length=Ln:=by rw[hout2,List.length_set];exact hol
      have hog2:∀s,out2.getD s 0=if s<q+1 then SH free a s else 0:=by
       intro s;rw[hout2,List.getD_eq_getElem?_getD,List.getElem?_set,hol];by_cases h:q=s
       ·subst h;rw[if_pos rfl,if_pos hqe,if_pos (by omega),hsdq];rfl
       ·rw[if_neg h,←List.getD_eq_getElem?_getD,hog];by_cases h2:s<q
        ·rw[if_pos h2,if_pos (by omega)]
        ·rw[if_neg h2,if_neg (by omega)]
      have hlem:le-mo=free-k7 (MF free a) (q+1):=by rw[hsq,hmdq,hle];omega
      generalize hlq:l.getD q 0=lq at *;generalize hlb:l.getD b 0=lb at *;generalize hom:1+mo=om at *;generalize hlm:le-mo=lm at *;cbv;rw[htq,htb,hadd0,hadd0,hvgd,hvgd,hlq,hlb,ew,em,eq1,ew2,ea,ew3,es,est];refine⟨⟨hin1⟩,⟨by omega⟩,⟨by omega⟩,⟨by omega⟩,⟨hin2⟩,⟨by omega⟩,⟨hin1⟩,⟨by omega⟩,⟨by omega⟩,⟨hin3⟩,⟨by omega⟩,⟨by omega⟩,?_⟩
      generalize hz2:vc .gtr lq lb=z2;cases z2
      ·cbv;rw[ek];refine Cv.fold ([15,16]++[70,71,72,73,74,75,76,77,78,79,80,81,82,83,84,85,86,87,88,89,90,91,92,93,94,95,96,97,98,99,100,101,102,103,104,105,106]) 2 [] (by exact Nat.le_refl _) (by exact Nat.le_of_ble_eq_true rfl) (by rfl) (by cbv) ?_
       intro js;refine⟨(_,_,_,_),?_,js,rfl⟩
       exact⟨⟨q+1,b,hk3,hqe,hbe,hbL,by omega,hlem,hol2,hog2⟩,hmu⟩
      ·cbv;rw[ek];refine Cv.fold ([15,16]++[70,71,72,73,74,75,76,77,78,79,80,81,82,83,84,85,86,87,88,89,90,91,92,93,94,95,96,97,98,99,100,101,102,103,104,105,106]) 2 [] (by exact Nat.le_refl _) (by exact Nat.le_of_ble_eq_true rfl) (by rfl) (by cbv) ?_
       intro js;refine⟨(_,_,_,_),?_,js,rfl⟩
       exact⟨⟨q+1,q,hk3,hqe,hk2,hqe,by omega,hlem,hol2,hog2⟩,hmu⟩
set_option maxRecDepth 100000
inductive RT (A B C:Nat→Int) (N:Nat) (told:List Int):Nat→List Int→List Int→Prop
  |nil:RT A B C N told told.length [-1,-1] []
  |first {i:Nat} {q bs:List Int} {k:Nat} (h:RT A B C N told (i+1) q bs) (hi:i<told.length) (hq:q.getD (i % 2) 0<0) (hk:k<N) (ha:A k=told.getD i 0) (hb:i+2=told.length→0<B k):RT A B C N told i (q.set (i % 2) k) bs
  |step {i:Nat} {q bs:List Int} {k:Nat} (h:RT A B C N told (i+1) q bs) (hi:i<told.length) (hq:0≤q.getD (i % 2) 0) (hk:k<N) (ha:kcT A B C (told.getD i 0) (q.getD (i % 2) 0) k):RT A B C N told i (q.set (i % 2) k) (bs++kC (q.getD (i % 2) 0-C k) (B k).toNat)
def km3 (hd q bs:List Int):List Int:=hd++pack (bs++kC (IntKind.u64.wrap (q.getD 1 0)) 6++kC (IntKind.u64.wrap (q.getD 0 0)) 6++[1])
def keK (A B C:Nat→Int) (N:Nat) (told hd:List Int):Prop:=
  (∃(i:Nat) (q bs:List Int),i<told.length∧RT A B C N told (i+1) q bs∧((q.getD (i % 2) 0<0∧∀k,k<N→A k=told.getD i 0→i+2=told.length∧¬0<B k)∨(0≤q.getD (i % 2) 0∧∀k,k<N→¬kcT A B C (told.getD i 0) (q.getD (i % 2) 0) k))) ∨
  ∃q bs:List Int,RT A B C N told 0 q bs∧¬(bst 256 (km3 hd q bs)=some told∧(km3 hd q bs).length≤127)
theorem kg7 (x:Int):0≤IntKind.u64.wrap x∧IntKind.u64.wrap x<2^64:=by
  simp only[IntKind.wrap,IntKind.bits,IntKind.signed];simp only[Bool.false_eq_true,if_false,Bool.false_and,ite_false];omega
theorem kjx:∀{a b:List Int},(∀c∈a,kv c)→(∀c∈b,kv c)→List.map (fun n=>UInt8.ofNat n.toNat) a=List.map (fun n=>UInt8.ofNat n.toNat) b→a=b
  |[],[],_,_,_=>rfl
  |[],y::b,_,_,h=>by simp at h
  |x::a,[],_,_,h=>by simp at h
  | x::a,y::b,ha,hb,h=>by
    rw[List.map_cons,List.map_cons,List.cons.injEq] at h;have h1:=ha x (by simp);have h2:=hb y (by simp);have h3:=congrArg UInt8.toNat h.1;rw[UInt8.toNat_ofNat',UInt8.toNat_ofNat'] at h3;unfold kv at h1 h2;rw[kjx (fun c hc=>ha c (List.mem_cons_of_mem _ hc)) (fun c hc=>hb c (List.mem_cons_of_mem _ hc)) h.2];congr 1
    omega
theorem kjy {q:List Int} {k N:Nat} {ki:Int} (hql:q.length=2) (hqr:∀j:Nat,-1≤q.getD j 0∧q.getD j 0<N) (kN:Nat) (h1:ki=k) (h2:k<N) :
    (q.set kN ki).length=2∧∀j:Nat,-1≤(q.set kN ki).getD j 0∧(q.set kN ki).getD j 0<N:=by
  refine⟨by rw[List.length_set];exact hql,fun j=>?_⟩
  rcases kb2 q kN j ki with⟨h,_⟩|h
  · rw[h];omega
  · rw[h];exact hqr j
theorem khG (told cs:List Int) (capT capC:Nat) (N:Nat) (A B C:Nat→Int) (ht:∀c∈told,kv c) (htl:told.length≤256) (hcl:cs.length≤256) (hN1:1≤N) (hN4:N≤4096) (hbnd:∀k,k<N→0≤B k∧B k≤12∧0≤C k∧C k<4096)
    (hwl:(qp cs 6).length≤5000) (hwb:∀b∈qp cs 6,jc b)
    (hT:Con Try.prog 66 [.slice 0 .z 1 cs.length capC,.int .i64 6] [.ro .i16 cs] (fun v H R=>R=[]∧v=.tup [.slice 1 .z 3 N N,.int .i64 0]∧H=[.ro .i16 cs,.arr 79 3 N (fun m=>[.int .u8 (A m),.int .u8 (B m),.int .u16 (C m)])]))
    (hW:Con Try.prog 68 [.slice 0 .z 1 cs.length capC,.int .i64 6] [.ro .i16 cs] (fun v H R=>R=[2]∧∃l' n' m' c c',WS (qp cs 6) l' n' m'∧v=.tup [.slice 3 .z 1 n' c',.int .i64 0] ∧
      H=[.ro .i16 cs,.one 184 [.slice 2 .z 1 n' c,.int .i64 m'],.buf 5 .u8 l' c,.buf 5 .u8 l' c'])) :
    Con Try.prog 79 [.slice 0 .z 1 told.length capT,.slice 1 .z 1 cs.length capC,.int .i64 6] [.ro .u8 told,.ro .i16 cs] (fun v H R=>R=[] ∧
      ((v=.val (.slice none 0 0)∧H=[.ro .u8 told,.ro .i16 cs]∧keK A B C N told (pack (qp cs 6))) ∨
       ∃(b:List Int) (c':Nat),b.length+1≤c'∧v=.slice 2 .z 1 (b.length+1) c'∧H=[.ro .u8 told,.ro .i16 cs,.buf 5 .u8 ((b.length:Int)::b) c']∧bst 256 b=some told∧b.length≤127∧∀x∈b,isByte x)):=by
  have hfirst:=fun(s:Int) (z:Bool)=>khF N A B C s z N hN4
  have hahead:=fun(s next:Int) (h:0≤next∧next<4096)=>km1 N A B C s next N hN4 hbnd h
  have hput:=@kpK;have hclose:=@km2;have hbys:=kdv;have hRT0:=RT.nil (A:=A) (B:=B) (C:=C) (N:=N) (told:=told);have hRTf:=@RT.first A B C N told
  have hRTs:=@RT.step A B C N told;have hNilA:∀(i:Nat) (q bs:List Int),i<told.length→RT A B C N told (i+1) q bs→q.getD (i % 2) 0<0→(∀k,k<N→A k=told.getD i 0→i+2=told.length∧¬0<B k)→keK A B C N told (pack (qp cs 6)):=fun i q bs h1 h2 h3 h4=>.inl ⟨i,q,bs,h1,h2,.inl ⟨h3,h4⟩⟩
  have hNilB:∀(i:Nat) (q bs:List Int),i<told.length→RT A B C N told (i+1) q bs→0≤q.getD (i % 2) 0→(∀k,k<N→¬kcT A B C (told.getD i 0) (q.getD (i % 2) 0) k)→keK A B C N told (pack (qp cs 6)):=fun i q bs h1 h2 h3 h4=>.inl ⟨i,q,bs,h1,h2,.inr ⟨h3,h4⟩⟩
  have hNilC:∀q bs:List Int,RT A B C N told 0 q bs→¬(bst 256 (km3 (pack (qp cs 6)) q bs)=some told∧(km3 (pack (qp cs 6)) q bs).length≤127)→keK A B C N told (pack (qp cs 6)):=fun q bs h1 h2=>.inr ⟨q,bs,h1,h2⟩
  have hHit:∀s next k,kcT A B C s next k→C k≤next∧next-C k<2^(B k).toNat:=fun s next k h=>h.2
  have hfin:∀(hd q bs:List Int),km3 hd q bs=hd++pack (bs++kC (IntKind.u64.wrap (q.getD 1 0)) 6++kC (IntKind.u64.wrap (q.getD 0 0)) 6++[1]):=fun _ _ _=>rfl
  have hpkl:=kR;have hpkb:=kgT;have hbt:=fun i=>jm ht i
  generalize keK A B C N told (pack (qp cs 6))=BN at *;generalize qp cs 6=WB at *;generalize RT A B C N told=RTT at *;generalize kcT A B C=HT at *;generalize hn:told.length=n at *;generalize hcn:cs.length=cn at *;refine kj (kG (km (kg kr ksf ?_)))
  intro vb vc vw vtoN vofN vaddN _ _ _ _ vgd vst vln vrep vsub vonto _ vstrEq _ vnotB _ hw qb qc qw qtoN qofN qaddN _ _ _ _ qgd qst qln qrep qsub qonto _ qstrEq _ qnotB _;have hm:=kr;generalize Try.prog=P at *;have hto:∀i:Nat,vtoN (i:Int)=i:=fun i=>by simp only[qtoN,Int.toNat_natCast]
  have hadd0:∀i,vaddN 0 i=i:=fun i=>by simp only[qaddN,Nat.zero_add]
  have hnt:vnotB true=false:=by rw[qnotB];rfl
  have hnf:vnotB false=true:=by rw[qnotB];rfl
  have hgd:∀l i,vgd l i=l.getD i 0:=fun l i=>by simp only[qgd]
  obtain⟨nI,hnI⟩:∃nI:Int,nI=n:=⟨_,rfl⟩;have en:vofN n=nI:=by rw[qofN,hnI]
  obtain⟨nm1,hnm1⟩:∃x:Int,x=nI-1:=⟨_,rfl⟩;have es:vb .sub .i64 nI 1=nm1:=by rw[qb,hnm1];exact ky (by omega) (by omega)
  obtain⟨nm2,hnm2⟩:∃x:Int,x=nI-2:=⟨_,rfl⟩;have es2:vb .sub .i64 nI 2=nm2:=by rw[qb,hnm2];exact ky (by omega) (by omega)
  have hnm1':nm1=(n:Int)-1:=by omega
  have hnm2':nm2=(n:Int)-2:=by omega
  clear hnm1 hnm2;cbv;refine ka (ρ:=[(1,.z)]) hT ⟨by rfl,by rfl,by rfl,by cbv;(repeat' first|(refine And.intro ?_ ?_)|exact trivial|exact⟨Nat.le_refl _⟩|exact kb _|exact fun _=>rfl|(simp only[renL3];done)|(show SB.roA _ _ _=SB.roA _ _ _;rfl)|exact funext fun _=>rfl)⟩ ?_
  rintro v H R js ⟨rfl,rfl,rfl⟩;cbv;(repeat refine And.intro (fun _=>rfl) ?_);refine ka (ρ:=[(1,.z)]) hW ⟨by rfl,by rfl,by rfl,by cbv;(repeat' first|(refine And.intro ?_ ?_)|exact trivial|exact⟨Nat.le_refl _⟩|exact kb _|exact fun _=>rfl|(simp only[renL3];done)|(show SB.roA _ _ _=SB.roA _ _ _;rfl)|exact funext fun _=>rfl)⟩ ?_
  rintro v H R js ⟨rfl,lh,nh,mh,ch,ch2,hws0,rfl,rfl⟩;cbv;(repeat refine And.intro (fun _=>rfl) ?_);have hz0:vc .neq 0 0=false:=by rw[qc];rfl
  rw[hz0];cbv;rw[hz0];cbv;(repeat refine And.intro (fun _=>rfl) ?_);have hst2:vst (vst (vrep 2 0) 0 (-1)) 1 (-1)=[-1,-1]:=by simp only[qst,qrep];rfl
  refine⟨⟨by simp only[qln,qrep];decide⟩,⟨by simp only[qln,qrep,qst];decide⟩,?_⟩
  rw[hst2,en,es];refine WX.cv (Cv.nilB 6 0 5 .u8 (by rfl) (by cbv;(repeat' first|(refine And.intro ?_ ?_)|exact trivial|exact⟨Nat.le_refl _⟩|exact kb _|exact fun _=>rfl|(simp only[renL3];done)|(show SB.roA _ _ _=SB.roA _ _ _;rfl)|exact funext fun _=>rfl)) (Cv.here ?_))
  refine kl (α:=Int×Nat×List Int×List Int×List Int×Nat×Int×Nat) ([15,16,17,18,19]++(List.range' 48 64)) [6,7,8] (fun(ii,i,q,bs,lb,nb,mb,cb)=>[(14,.int .i64 ii)])
    (fun(ii,i,q,bs,lb,nb,mb,cb)=>[(6,.one 71 [.slice 8 .z 1 nb cb,.int .i64 mb]),(7,.ints 195 .i64 q),(8,.buf 5 .u8 lb cb)])
    (fun(ii,i,q,bs,lb,nb,mb,cb)=>ii=(i:Int)-1∧i≤n∧q.length=2∧(∀j:Nat,-1≤q.getD j 0∧q.getD j 0<N)∧WS bs lb nb mb∧bs.length+12*i≤12*n∧RTT i q bs)
    (fun(ii,i,q,bs,lb,nb,mb,cb)=>i) hw hm ?_ ?_
  · refine Cv.genAt [14] [6] (Cv.fold ([15,16,17,18,19]++(List.range' 48 64)) 9 [6,7,8] (by exact Nat.le_refl _) (by exact Nat.le_of_ble_eq_true rfl) (by rfl) (by cbv) ?_)
    intro js;exact⟨(nm1,n,[-1,-1],[],[],0,0,0),⟨hnm1',Nat.le_refl _,rfl,fun j=>by
      rcases j with _|_|j
      · exact⟨by decide,by show(-1:Int)<N;omega⟩
      · exact⟨by decide,by show(-1:Int)<N;omega⟩
      · exact⟨by show(-1:Int)≤0;decide,by show(0:Int)<N;omega⟩,WS.nil,by simp,hRT0⟩,js,rfl⟩
  · rintro⟨ii,i,q,bs,lb,nb,mb,cb⟩ js ⟨hii,hin,hql,hqr,hws,hbl,hrt⟩
    by_cases hi0:i=0
    · subst hi0
      have hge:vc .geq ii 0=false:=by rw[qc,kO];omega
      have hg0:vgd q 0=q.getD 0 0:=hgd q 0;have hg1:vgd q 1=q.getD 1 0:=hgd q 1;have hlq:vln q=2:=by rw[qln];exact hql
      obtain⟨x0,hx0⟩:∃x,x=IntKind.u64.wrap (q.getD 0 0):=⟨_,rfl⟩;obtain⟨x1,hx1⟩:∃x,x=IntKind.u64.wrap (q.getD 1 0):=⟨_,rfl⟩;have hw0:vw .u64 (q.getD 0 0)=x0:=by rw[qw,hx0]
      have hw1:vw .u64 (q.getD 1 0)=x1:=by rw[qw,hx1]
      have hr0:=kg7 (q.getD 0 0);have hr1:=kg7 (q.getD 1 0);rw[←hx0] at hr0;rw[←hx1] at hr1;have hbl0:bs.length≤4000:=by omega
      have hp1:=hput bs lb cb nb x1 6 mb hr1 (by decide) hws (by omega);have hp0:=fun(bs1 lb cb nb mb) (h:WS bs1 lb nb mb) (h2:bs1.length≤5000)=>hput bs1 lb cb nb x0 6 mb hr0 (by decide) h (by omega)
      have hfi:km3 (pack WB) q bs=pack WB++pack (bs++kC x1 6++kC x0 6++[1]):=by rw[hfin,←hx0,←hx1]
      have hnc:=hNilC q bs hrt;rw[hfi] at hnc;have e6:(6:Int).toNat=6:=rfl;rw[e6] at hp1 hp0;obtain⟨bs1,hbs1⟩:∃b,b=bs++kC x1 6:=⟨_,rfl⟩;have hbl1:bs1.length≤5000:=by rw[hbs1,List.length_append,kM];omega
      rw[←hbs1] at hp1 hnc;obtain⟨bs2,hbs2⟩:∃b,b=bs1++kC x0 6:=⟨_,rfl⟩;have hbl2:bs2.length≤5006:=by rw[hbs2,List.length_append,kM];omega
      rw[←hbs2] at hnc;have hp0:=fun(lb cb nb mb) (h:WS bs1 lb nb mb)=>hp0 bs1 lb cb nb mb h hbl1
      rw[←hbs2] at hp0;have hcl:=fun(l c n m) (h:WS bs2 l n m)=>hclose bs2 l c n m h (by omega)
      clear hfirst hahead hput hclose hRTf hRTs hNilA hNilB hNilC hHit hqr hbt;cbv;rw[hge];cbv;rw[hg1,hw1];refine⟨⟨by decide⟩,⟨by rw[hlq];decide⟩,?_⟩
      refine ka (ρ:=[(6,.z),(8,.z)]) hp1 ⟨by rfl,by rfl,by rfl,by cbv;(repeat' first|(refine And.intro ?_ ?_)|exact trivial|exact⟨Nat.le_refl _⟩|exact kb _|exact fun _=>rfl|(simp only[renL3];done)|(show SB.roA _ _ _=SB.roA _ _ _;rfl)|exact funext fun _=>rfl)⟩ ?_
      rintro v H R js3 ⟨rfl,lb2,nb2,mb2,cb2,hws2,rfl,rfl⟩;have hp0:=hp0 lb2 cb2 nb2 mb2 hws2;clear hp1;cbv;(repeat refine And.intro (fun _=>rfl) ?_);rw[hg0,hw0];refine⟨⟨by decide⟩,⟨by rw[hlq];decide⟩,?_⟩
      refine ka (ρ:=[(6,.z),(8,.z)]) hp0 ⟨by rfl,by rfl,by rfl,by cbv;(repeat' first|(refine And.intro ?_ ?_)|exact trivial|exact⟨Nat.le_refl _⟩|exact kb _|exact fun _=>rfl|(simp only[renL3];done)|(show SB.roA _ _ _=SB.roA _ _ _;rfl)|exact funext fun _=>rfl)⟩ ?_
      rintro v H R js4 ⟨rfl,lb3,nb3,mb3,cb3,hws3,rfl,rfl⟩;have hcl:=hcl lb3 cb3 nb3 mb3 hws3;clear hp0;cbv;(repeat refine And.intro (fun _=>rfl) ?_);refine ka (ρ:=[(6,.z),(8,.z)]) hcl ⟨by rfl,by rfl,by rfl,by cbv;(repeat' first|(refine And.intro ?_ ?_)|exact trivial|exact⟨Nat.le_refl _⟩|exact kb _|exact fun _=>rfl|(simp only[renL3];done)|(show SB.roA _ _ _=SB.roA _ _ _;rfl)|exact funext fun _=>rfl)⟩ ?_
      rintro v H R js5 ⟨rfl,lz,nz,cz,hlz,hnz,rfl,rfl⟩;clear hcl;obtain⟨w1,w2,w3,w4⟩:=hws;obtain⟨v1,v2,v3,v4⟩:=hws0;have hlnz:vln lz=nz:=by rw[qln];exact hnz.symm
      have hlnh:vln lh=nh:=by rw[qln];exact v3.symm
      obtain⟨BB,hBB⟩:∃B,B=lh++lz:=⟨_,rfl⟩;obtain⟨m,hm2⟩:∃m,m=nh+nz:=⟨_,rfl⟩;have hont:vonto lh nh (vsub lz 0 nz)=BB:=by
        have e1:lh.take nh=lh:=by rw[v3];exact List.take_length
        have e2:lz.take nz=lz:=by rw[hnz];exact List.take_length
        rw[qonto,qsub,hBB];simp only[List.drop_zero,e1,e2]
      have ha:vaddN nh nz=m:=by rw[hm2];simp only[qaddN]
      have hBl:BB.length=m:=by rw[hBB,List.length_append,←v3,←hnz,hm2]
      have hBB2:pack WB++pack (bs2++[1])=BB:=by rw[hBB,v2,hlz]
      rw[hBB2] at hnc;have hBb:∀x∈BB,isByte x:=fun x hx=>by
        rw[←hBB2] at hx;rcases List.mem_append.1 hx with hx|hx
        · exact hpkb WB hwb x hx
        · refine hpkb (bs2++[1]) (fun y hy=>?_) x hx
          rcases List.mem_append.1 hy with hy|hy
          · rw[hbs2] at hy
            rcases List.mem_append.1 hy with hy|hy
            · rw[hbs1] at hy
              rcases List.mem_append.1 hy with hy|hy
              · exact w1 y hy
              · exact jw _ _ y hy
            · exact jw _ _ y hy
          · rw[List.mem_singleton.1 hy];unfold jc;omega
      have hml:m≤100000:=by
        have h1:=hpkl WB;have h2:=hpkl (bs2++[1]);rw[List.length_append] at h2;simp only[List.length_cons,List.length_nil] at h2;rw[←v2] at h1;rw[←hlz] at h2;omega
      have hby:=fun c h=>hbys BB c hBb (by omega) h
      rw[hBl] at hby;clear hbys hpkl hpkb hfin hrt hbl hbl0 hbl1 hbl2 hws2 hws3 hfi hBB2 hBB hwb hwl w1 w2 w3 w4 v1 v2 v4;cbv;(repeat refine And.intro (fun _=>rfl) ?_);refine⟨⟨by rw[hadd0,hlnz];exact Nat.le_refl _⟩,⟨by rw[hlnh];exact Nat.le_refl _⟩,⟨Nat.le_refl _⟩,⟨by rw[ha];((try simp only[nc] at *);omega)⟩,?_⟩
      (repeat refine And.intro (fun _=>rfl) ?_);intro c2 jv hle;have hle':m≤c2:=by have:=hle.out;simp only at this;rw[ha] at this;exact this
      have hby:=hby c2 hle';cbv;rw[hont,ha];refine ka (ρ:=[(5,.z)]) hby ⟨by rfl,by rfl,by rfl,by cbv;(repeat' first|(refine And.intro ?_ ?_)|exact trivial|exact⟨Nat.le_refl _⟩|exact kb _|exact fun _=>rfl|(simp only[renL3];done)|(show SB.roA _ _ _=SB.roA _ _ _;rfl)|exact funext fun _=>rfl)⟩ ?_
      rintro v H R js6 ⟨rfl,⟨hb1,rfl,rfl⟩|⟨L,cL,hb1,rfl,rfl⟩⟩
      · have hbn:=hnc (fun h=>by rw[hb1] at h;cases h.1)
        clear hnc hby;cbv;(repeat refine And.intro (fun _=>rfl) ?_);rw[hnf];cbv;exact⟨[0,1],.val (.slice none 0 0),[.ro .u8 told,.ro .i16 cs],rfl,rfl,rfl,rfl,⟨rfl,rfl,trivial⟩,rfl,.inl ⟨rfl,rfl,hbn⟩⟩
      · have hbn:¬(L=told∧m≤127)→BN:=fun h=>hnc (fun h2=>h ⟨by rw[hb1] at h2;exact Option.some.inj h2.1,by rw[←hBl];exact h2.2⟩)
        obtain⟨Ln,hLn⟩:∃n,n=L.length:=⟨_,rfl⟩;have hLu:=(kga hb1).1;have hsubL:vsub L 0 Ln=L:=by rw[qsub,hLn];simp
        have hsubT:vsub told 0 n=told:=by rw[qsub,←hn];simp
        have hlL:vln L=Ln:=by rw[qln,hLn]
        have hlT:vln told=n:=by rw[qln];exact hn
        obtain⟨mI,hmI⟩:∃x:Int,x=m:=⟨_,rfl⟩;have em:vofN m=mI:=by rw[qofN,hmI]
        rw[←hLn];clear hnc hby;cbv;(repeat refine And.intro (fun _=>rfl) ?_);rw[hnt];cbv;refine⟨⟨by rw[hadd0,hlL];exact Nat.le_refl _⟩,⟨by rw[hadd0,hlT];exact Nat.le_refl _⟩,?_⟩
        rw[hsubL,hsubT];by_cases hLT:L=told
        · have hse:vnotB (vstrEq L told)=false:=by rw[qstrEq,qnotB,hLT];simp
          rw[hse];cbv;rw[em];by_cases hm7:m≤127
          · have hg7:vc .gtr mI 127=false:=by rw[qc,ku];((try simp only[nc] at *);omega)
            have hw8:vw .u8 mI=mI:=by rw[qw,hmI];((try simp only[nc] at *));show(m:Int) % 256=m;omega
            have hl1:vln [mI]=1:=by rw[qln];rfl
            have hlB:vln BB=m:=by rw[qln];exact hBl
            have ha1:vaddN 1 m=m+1:=by rw[qaddN];exact Nat.add_comm 1 m
            have hont2:vonto [mI] 1 (vsub BB 0 m)=mI::BB:=by
              have e2:BB.take m=BB:=by rw[←hBl];exact List.take_length
              rw[qonto,qsub];simp only[List.drop_zero,e2];rfl
            have hb1':bst 256 BB=some told:=by rw[hb1,hLT]
            obtain⟨m1,hm1⟩:∃m1,m1=m+1:=⟨_,rfl⟩;rw[←hm1] at ha1;rw[hg7];cbv;rw[em,hw8];(repeat refine And.intro (fun _=>rfl) ?_);refine⟨⟨by rw[hadd0,hlB];exact Nat.le_refl _⟩,⟨by rw[hl1];exact Nat.le_refl _⟩,⟨by rw[hl1];exact Nat.le_refl _⟩,⟨by rw[ha1];((try simp only[nc] at *);omega)⟩,?_⟩
            (repeat refine And.intro (fun _=>rfl) ?_);intro c3 jv3 hle3;have hle3':m1≤c3:=by have:=hle3.out;simp only at this;rw[ha1] at this;exact this
            cbv;rw[hont2,ha1];subst hm1;subst hmI;subst hBl;exact⟨[0,1,10],.slice 2 .z 1 (BB.length+1) c3,[.ro .u8 told,.ro .i16 cs,.buf 5 .u8 ((BB.length:Int)::BB) c3],rfl,rfl,rfl,rfl,⟨rfl,rfl,rfl,trivial⟩,rfl,.inr ⟨BB,c3,hle3',rfl,rfl,hb1',hm7,hBb⟩⟩
          · have hg7:vc .gtr mI 127=true:=by rw[qc,kz];((try simp only[nc] at *);omega)
            have hbn:=hbn (fun h=>hm7 h.2);rw[hg7];cbv;exact⟨[0,1],.val (.slice none 0 0),[.ro .u8 told,.ro .i16 cs],rfl,rfl,rfl,rfl,⟨rfl,rfl,trivial⟩,rfl,.inl ⟨rfl,rfl,hbn⟩⟩
        · have hse:vnotB (vstrEq L told)=true:=by rw[qstrEq,qnotB];simp;exact fun h=>hLT (kjx hLu ht h)
          have hbn:=hbn (fun h=>hLT h.1);rw[hse];cbv;exact⟨[0,1],.val (.slice none 0 0),[.ro .u8 told,.ro .i16 cs],rfl,rfl,rfl,rfl,⟨rfl,rfl,trivial⟩,rfl,.inl ⟨rfl,rfl,hbn⟩⟩
    · obtain⟨i,rfl⟩:∃i',i=i'+1:=⟨i-1,by omega⟩
      have hii':ii=i:=by omega
      have hin':i<n:=by omega
      have hge:vc .geq ii 0=true:=by rw[qc,jb];omega
      obtain⟨kN,hkN⟩:∃k:Nat,k=i % 2:=⟨_,rfl⟩;obtain⟨kI,hkI⟩:∃k:Int,k=kN:=⟨_,rfl⟩;have erem:vb .rem .i64 ii 2=kI:=by rw[qb,kdd (by omega),hkI,hkN,hii'];omega
      have htk:vtoN kI=kN:=by rw[hkI];exact hto kN
      have hk2:kN<2:=by omega
      have hkR:0≤kI∧kI<2:=by omega
      have hti:vtoN ii=i:=by rw[hii'];exact hto i
      have hinR:0≤ii∧ii<(n:Int):=by omega
      have hlq:vln q=2:=by rw[qln];exact hql
      have hlt2:vln told=n:=by rw[qln];exact hn
      obtain⟨nx,hnx⟩:∃x,x=q.getD kN 0:=⟨_,rfl⟩;have hgq:vgd q kN=nx:=by rw[hnx];exact hgd q kN
      obtain⟨tv,htv⟩:∃x,x=told.getD i 0:=⟨_,rfl⟩;have hgt:vgd told i=tv:=by rw[htv];exact hgd told i
      have hqr1:=hqr kN;rw[←hnx] at hqr1;obtain⟨ii1,hii1⟩:∃x:Int,x=ii-1:=⟨_,rfl⟩;have eii:vb .sub .i64 ii 1=ii1:=by rw[qb,hii1];exact ky (by omega) (by omega)
      have hii1':ii1=(i:Int)-1:=by omega
      have hbl':bs.length+12*i≤12*n:=by omega
      have hnxk:nx=q.getD (i % 2) 0:=by rw[hnx,hkN]
      by_cases hnx0:nx<0
      · have hl:vc .lss nx 0=true:=by rw[qc,kf];exact hnx0
        obtain⟨z,hz⟩:∃z,z=vc .eql ii nm2:=⟨_,rfl⟩;have hnq:nm2=(n:Int)-2:=hnm2';have hzn:z=true↔i+2=n:=by rw[hz,qc,kF];omega
        have hnil:(∀k,k<N→A k=tv→z=true∧¬0<B k)→BN:=fun h=>hNilA i q bs hin' hrt (by rw[←hnxk];exact hnx0) (fun k hk ha=>by
          have:=h k hk (by rw[htv];exact ha);exact⟨hzn.1 this.1,this.2⟩)
        have hok:∀(k:Nat) (ki:Int),ki=k→k<N→A k=tv→(z=true→0<B k)→(vst q kN ki).length=2∧(∀j:Nat,-1≤(vst q kN ki).getD j 0∧(vst q kN ki).getD j 0<N)∧RTT i (vst q kN ki) bs:=fun k ki h1 h2 h3 h4=>by
          rw[qst];obtain⟨e1,e2⟩:=kjy hql hqr kN h1 h2;refine⟨e1,e2,?_⟩
          rw[hkN,h1];exact hRTf hrt hin' (by rw[←hnxk];exact hnx0) h2 (by rw[←htv];exact h3) (fun e=>h4 (hzn.2 e))
        have hfz:=hfirst tv z;clear hfirst hahead hput hclose hbys hRTf hRTs hNilA hNilB hNilC hHit hqr;cbv;rw[hge];cbv;rw[erem,htk];refine⟨⟨hkR⟩,⟨by rw[hlq];exact hk2⟩,?_⟩
        rw[hgq,hl];cbv;rw[hti,hgt,es2,←hz];refine⟨⟨hinR⟩,⟨by rw[hadd0,hlt2];exact hin'⟩,⟨by rw[hlt2];exact hin'⟩,?_⟩
        refine ka (ρ:=[(2,.z)]) hfz ⟨by rfl,by rfl,by rfl,by cbv;(repeat' first|(refine And.intro ?_ ?_)|exact trivial|exact⟨Nat.le_refl _⟩|exact kb _|exact fun _=>rfl|(simp only[renL3];done)|(show SB.roA _ _ _=SB.roA _ _ _;rfl)|exact funext fun _=>rfl)⟩ ?_
        rintro v H R js2 ⟨rfl,rfl,⟨ki,k,rfl,hki,hkN',hA,hB⟩|⟨rfl,hno⟩⟩
        · obtain⟨f1,f2,f3⟩:=hok k ki hki hkN' hA hB
          clear hok hnil hfz;generalize hq2:vst q kN ki=q2 at f1 f2 f3;cbv;(repeat refine And.intro (fun _=>rfl) ?_);rw[hnt];cbv;rw[htk];(repeat refine And.intro (fun _=>rfl) ?_);rw[eii,hq2];refine⟨⟨hkR⟩,⟨by rw[hlq];exact hk2⟩,?_⟩
          refine Cv.fold ([15,16,17,18,19]++(List.range' 48 64)) 9 [6,7,8] (by exact Nat.le_refl _) (by exact Nat.le_of_ble_eq_true rfl) (by rfl) (by cbv) ?_
          intro js;refine⟨(ii1,i,q2,bs,lb,nb,mb,cb),?_,js,rfl⟩
          exact⟨⟨hii1',Nat.le_of_lt hin',f1,f2,hws,hbl',f3⟩,Nat.lt_succ_self i⟩
        · have hbn:=hnil hno
          clear hok hnil hfz;cbv;(repeat refine And.intro (fun _=>rfl) ?_);rw[hnf];cbv;exact⟨[0,1],.val (.slice none 0 0),[.ro .u8 told,.ro .i16 cs],rfl,rfl,rfl,rfl,⟨rfl,rfl,trivial⟩,rfl,.inl ⟨rfl,rfl,hbn⟩⟩
      · have hl:vc .lss nx 0=false:=by rw[qc,ke];exact hnx0
        have hnx1:0≤nx∧nx<4096:=by omega
        have hnil:(∀k,k<N→¬HT tv nx k)→BN:=fun h=>hNilB i q bs hin' hrt (by rw[←hnxk];exact hnx1.1) (fun k hk=>by
          rw[←hnxk,←htv];exact h k hk)
        have hok:∀(k:Nat) (ki:Int),ki=k→k<N→HT tv nx k→(vst q kN ki).length=2∧(∀j:Nat,-1≤(vst q kN ki).getD j 0∧(vst q kN ki).getD j 0<N)∧RTT i (vst q kN ki) (bs++kC (nx-C k) (B k).toNat):=fun k ki h1 h2 h3=>by
          rw[qst];obtain⟨e1,e2⟩:=kjy hql hqr kN h1 h2;refine⟨e1,e2,?_⟩
          rw[hkN,h1,hnxk];exact hRTs hrt hin' (by rw[←hnxk];exact hnx1.1) h2 (by rw[←hnxk,←htv];exact h3)
        have hk4:∀(k:Nat),k<N→HT tv nx k→vw .i64 (C k)=C k∧vb .sub .i64 nx (C k)=nx-C k∧vw .u64 (nx-C k)=nx-C k∧vw .i64 (B k)=B k∧(0≤nx-C k∧nx-C k<2^64)∧(0≤B k∧B k≤56)∧(bs++kC (nx-C k) (B k).toNat).length+12*i≤12*n:=fun k h1 h2=>by
          have b1:=hbnd k h1;have b2:=hHit _ _ _ h2;refine⟨by rw[qw];exact wrap_i64 (by omega) (by omega),by rw[qb];exact ky (by omega) (by omega),by rw[qw];exact wrap_u64 (by omega) (by omega),by rw[qw];exact wrap_i64 (by omega) (by omega),⟨by omega,?_⟩,⟨by omega,by omega⟩,?_⟩
          · show nx-C k<18446744073709551616;omega
          · rw[List.length_append,kM];omega
        have haz:=hahead tv nx hnx1;have hbsl:bs.length≤2^40:=by omega
        clear hfirst hahead hclose hbys hRTf hRTs hNilA hNilB hNilC hHit hqr;cbv;rw[hge];cbv;rw[erem,htk];refine⟨⟨hkR⟩,⟨by rw[hlq];exact hk2⟩,?_⟩
        rw[hgq,hl];cbv;rw[hti,hgt];refine⟨⟨hinR⟩,⟨by rw[hadd0,hlt2];exact hin'⟩,⟨by rw[hlt2];exact hin'⟩,?_⟩
        rw[htk,hgq];refine⟨⟨hkR⟩,⟨by rw[hlq];exact hk2⟩,?_⟩
        refine ka (ρ:=[(2,.z)]) haz ⟨by rfl,by rfl,by rfl,by cbv;(repeat' first|(refine And.intro ?_ ?_)|exact trivial|exact⟨Nat.le_refl _⟩|exact kb _|exact fun _=>rfl|(simp only[renL3];done)|(show SB.roA _ _ _=SB.roA _ _ _;rfl)|exact funext fun _=>rfl)⟩ ?_
        rintro v H R js2 ⟨rfl,rfl,⟨ki,k,rfl,hki,hkN',hA⟩|⟨rfl,hno⟩⟩
        · obtain⟨f1,f2,f3⟩:=hok k ki hki hkN' hA
          obtain⟨g1,g2,g3,g4,g5,g6,g7⟩:=hk4 k hkN' hA;obtain⟨x,hx⟩:∃x,x=nx-C k:=⟨_,rfl⟩;rw[←hx] at g2 g3 g5 g7 f3;have hpx:=hput bs lb cb nb x (B k) mb g5 g6 hws hbsl;have hki':ki=(k:Int):=hki;have htki:vtoN ki=k:=by rw[hki'];exact hto k
          have hkiR:0≤ki∧ki<(N:Int):=by omega
          generalize (bs++kC x (B k).toNat)=bs2 at *;clear hok hnil haz hk4;generalize hq2:vst q kN ki=q2 at f1 f2 f3;cbv;(repeat refine And.intro (fun _=>rfl) ?_);rw[hnt];cbv;rw[htk,htki];rw[g1,hgq,g2,g3,g4];refine⟨⟨hkR⟩,⟨by rw[hlq];exact hk2⟩,⟨hkiR⟩,⟨hkN'⟩,⟨hkiR⟩,⟨hkN'⟩,?_⟩
          refine ka (ρ:=[(6,.z),(8,.z)]) hpx ⟨by rfl,by rfl,by rfl,by cbv;(repeat' first|(refine And.intro ?_ ?_)|exact trivial|exact⟨Nat.le_refl _⟩|exact kb _|exact fun _=>rfl|(simp only[renL3];done)|(show SB.roA _ _ _=SB.roA _ _ _;rfl)|exact funext fun _=>rfl)⟩ ?_
          rintro v H R js3 ⟨rfl,lb2,nb2,mb2,cb2,hws2,rfl,rfl⟩;cbv;rw[htk,hgq,eii,hq2];(repeat refine And.intro (fun _=>rfl) ?_);refine⟨⟨⟨hkN'⟩,trivial⟩,⟨⟨hkN'⟩,trivial⟩,⟨⟨by rw[hlq];exact hk2⟩,rfl⟩,⟨hkR⟩,⟨by rw[hlq];exact hk2⟩,?_⟩
          refine Cv.fold ([15,16,17,18,19]++(List.range' 48 64)) 9 [6,7,8] (by exact Nat.le_refl _) (by exact Nat.le_of_ble_eq_true rfl) (by rfl) (by cbv) ?_
          intro js;refine⟨(ii1,i,q2,bs2,lb2,nb2,mb2,cb2),?_,js,rfl⟩
          exact⟨⟨hii1',Nat.le_of_lt hin',f1,f2,hws2,g7,f3⟩,Nat.lt_succ_self i⟩
        · have hbn:=hnil hno
          clear hok hnil haz hk4 hput;cbv;(repeat refine And.intro (fun _=>rfl) ?_);rw[hnf];cbv;exact⟨[0,1],.val (.slice none 0 0),[.ro .u8 told,.ro .i16 cs],rfl,rfl,rfl,rfl,⟨rfl,rfl,trivial⟩,rfl,.inl ⟨rfl,rfl,hbn⟩⟩
end Go.Proofs.Ytlclleihoampdaa
namespace Go.Proofs.Ytlclleihoampdaa
structure PermOn (p p':Nat→Nat) (a b:Nat):Prop where
 out:∀m,m<a∨b≤m→p' m=p m
 sub:∀m,a≤m→m<b→∃m',a≤m'∧m'<b∧p' m=p m'
 inj:(∀i j,p i=p j→i=j)→∀i j,p' i=p' j→i=j
def St (k:Nat→Int) (p:Nat→Nat):Prop:=∀i j,i<j→k (p i)=k (p j)→p i<p j
def Srt (k:Nat→Int) (p:Nat→Nat) (a b:Nat):Prop:=∀i j,a≤i→i<j→j<b→k (p i)≤k (p j)
theorem PermOn.refl (p:Nat→Nat) (a b:Nat):PermOn p p a b:=⟨fun _ _=>rfl,fun m h1 h2=>⟨m,h1,h2,rfl⟩,fun h=>h⟩
theorem PermOn.trans {p q r:Nat→Nat} {a b:Nat} (h:PermOn p q a b) (g:PermOn q r a b):PermOn p r a b:=by
 refine⟨fun m hm=>(g.out m hm).trans (h.out m hm),fun m h1 h2=>?_,fun hi=>g.inj (h.inj hi)⟩
 obtain⟨m',h3,h4,e⟩:=g.sub m h1 h2;obtain⟨m'',h5,h6,e'⟩:=h.sub m' h3 h4;exact⟨m'',h5,h6,e.trans e'⟩
theorem PermOn.wide {p q:Nat→Nat} {a b a' b':Nat} (h:PermOn p q a b) (ha:a'≤a) (hb:b≤b'):PermOn p q a' b':=by
 refine⟨fun m hm=>h.out m (by omega),fun m h1 h2=>?_,h.inj⟩
 by_cases hm:a≤m∧m<b
 ·obtain⟨m',h3,h4,e⟩:=h.sub m hm.1 hm.2;exact⟨m',by omega,by omega,e⟩
 ·exact⟨m,h1,h2,h.out m (by omega)⟩
theorem PermOn.st {k:Nat→Int} {p q:Nat→Nat} {a b:Nat} (h:PermOn p q a b) (hs:St k p) (hin:∀i j,a≤i→i<j→j<b→k (q i)=k (q j)→q i<q j):St k q:=by
 intro i j hij hk;by_cases hi:a≤i∧i<b
 ·by_cases hj:a≤j∧j<b
  ·exact hin i j hi.1 hij hj.2 hk
  ·obtain⟨i',h1,h2,e⟩:=h.sub i hi.1 hi.2;have ej:=h.out j (by omega);rw[e,ej] at hk ⊢
   exact hs i' j (by omega) hk
 ·have ei:=h.out i (by omega);by_cases hj:a≤j∧j<b
  ·obtain⟨j',h1,h2,e⟩:=h.sub j hj.1 hj.2;rw[e,ei] at hk ⊢
   exact hs i j' (by omega) hk
  ·have ej:=h.out j (by omega);rw[ei,ej] at hk ⊢
   exact hs i j hij hk
@[irreducible] def swp (p:Nat→Nat) (i j:Nat):Nat→Nat:=fun m=>if m=i then p j else if m=j then p i else p m
theorem kaB (p:Nat→Nat) (i j m:Nat):swp p i j m=if m=i then p j else if m=j then p i else p m:=by unfold swp;rfl
theorem keL (p:Nat→Nat) (i j:Nat):swp p i j i=p j:=by rw[kaB,if_pos rfl]
theorem keM (p:Nat→Nat) (i j:Nat):swp p i j j=p i:=by rw[kaB];split<;>simp_all
theorem kaa (p:Nat→Nat) (i j m:Nat) (h1:m≠i) (h2:m≠j):swp p i j m=p m:=by rw[kaB,if_neg h1,if_neg h2]
theorem kb3 {p:Nat→Nat} {a b i j:Nat} (hi:a≤i∧i<b) (hj:a≤j∧j<b):PermOn p (swp p i j) a b:=by
 refine⟨fun m hm=>kaa p i j m (by omega) (by omega),fun m h1 h2=>?_,fun hinj x y hxy=>?_⟩
 ·by_cases h:m=i
  ·subst h;exact⟨j,hj.1,hj.2,keL p m j⟩
  ·by_cases h':m=j
   ·subst h';exact⟨i,hi.1,hi.2,keM p i m⟩
   ·exact⟨m,h1,h2,kaa p i j m h h'⟩
 ·rw[kaB,kaB] at hxy;have hI:=hinj;repeat' split at hxy
  all_goals have:=hinj _ _ hxy
  all_goals omega
theorem khH {k:Nat→Int} {p:Nat→Nat} {i:Nat} (hs:St k p) (hk:k (p i)≠k (p (i+1))):St k (swp p i (i+1)):=by
 refine(kb3 (a:=i) (b:=i+2) ⟨by omega,by omega⟩ ⟨by omega,by omega⟩).st hs (fun x y h1 h2 h3 hxy=>?_)
 obtain rfl:x=i:=by omega
 obtain rfl:y=x+1:=by omega
 rw[keL,keM] at hxy;exact absurd hxy.symm hk
theorem kgf (p:Nat→Nat) (i j:Nat):swp p i j=swp p j i:=by
 funext m;rw[kaB,kaB];by_cases h1:m=i<;>by_cases h2:m=j<;>simp_all

def Ins (k:Nat→Int) (q:Nat→Nat) (a j i:Nat):Prop:=∀x y,a≤x→x<y→y≤i→y≠j→k (q x)≤k (q y)
theorem Ins.start {k:Nat→Int} {q:Nat→Nat} {a i:Nat} (h:Srt k q a i):Ins k q a i i:=fun x y h1 h2 h3 h4=>h x y h1 h2 (by omega)
theorem Ins.next {k:Nat→Int} {q:Nat→Nat} {a j i:Nat} (h:Ins k q a (j+1) i) (hj:a≤j) (hji:j+1≤i) (hk:k (q (j+1))<k (q j)):Ins k (swp q j (j+1)) a j i:=by
 intro x y h1 h2 h3 h4;rw[kaB,kaB];have e1:=h x y h1 h2 h3;have e2:=h j y hj;have e3:=h (j+1) y (by omega);have e4:=h x j h1;repeat' split
 all_goals first|omega|skip
 all_goals simp_all
 all_goals first|omega|(rcases Nat.lt_trichotomy y (j+1) with h|h|h<;>first|omega|(simp_all;omega))
theorem Ins.done {k:Nat→Int} {q:Nat→Nat} {a j i:Nat} (h:Ins k q a j i) (hj:j=a∨(a<j∧k (q (j-1))≤k (q j))):Srt k q a (i+1):=by
 intro x y h1 h2 h3;by_cases hy:y=j
 ·subst hy;rcases hj with hj|⟨hj,hk⟩
  ·omega
  ·by_cases hx:x=y-1
   ·subst hx;exact hk
   ·exact Int.le_trans (h x (y-1) h1 (by omega) (by omega) (by omega)) hk
 ·exact h x y h1 h2 (by omega) hy

structure Up (k:Nat→Int) (q:Nat→Nat) (a c i b:Nat):Prop where
 oth:∀x y,a≤x→x<y→y<b→x≠c→y≠c→k (q x)≤k (q y)
 lo:∀x,a≤x→x<c→k (q x)≤k (q c)
 mid:∀y,c<y→y<i→k (q y)<k (q c)
 hi:∀y,i≤y→y<b→c<y→k (q c)≤k (q y)
theorem Up.next {k:Nat→Int} {q:Nat→Nat} {a c i b:Nat} (h:Up k q a c i b) (ha:a≤c) (hc:c+1<i) (hi:i≤b):Up k (swp q c (c+1)) a (c+1) i b:=by
 have hm:=h.mid (c+1) (by omega) hc;refine⟨fun x y h1 h2 h3 h4 h5=>?_,fun x h1 h2=>?_,fun y h1 h2=>?_,fun y h1 h2 h3=>?_⟩
 ·by_cases hx:x=c
  ·subst hx;rw[keL,kaa _ _ _ y (by omega) (by omega)];exact h.oth (x+1) y (by omega) (by omega) h3 (by omega) (by omega)
  ·by_cases hy:y=c
   ·subst hy;rw[keL,kaa _ _ _ x (by omega) (by omega)];exact h.oth x (y+1) h1 (by omega) (by omega) (by omega) (by omega)
   ·rw[kaa _ _ _ x hx h4,kaa _ _ _ y hy h5];exact h.oth x y h1 h2 h3 hx hy
 ·rw[keM];by_cases hx:x=c
  ·subst hx;rw[keL];exact Int.le_of_lt hm
  ·rw[kaa _ _ _ x hx (by omega)];exact h.lo x h1 (by omega)
 ·rw[keM,kaa _ _ _ y (by omega) (by omega)];exact h.mid y (by omega) h2
 ·rw[keM,kaa _ _ _ y (by omega) (by omega)];exact h.hi y h1 h2 (by omega)
theorem Up.done {k:Nat→Int} {q:Nat→Nat} {a c i b:Nat} (h:Up k q a c i b) (hc:i≤c+1):Srt k q a b:=by
 intro x y h1 h2 h3;by_cases hx:x=c
 ·subst hx;exact h.hi y (by omega) h3 h2
 ·by_cases hy:y=c
  ·subst hy;exact h.lo x h1 h2
  ·exact h.oth x y h1 h2 h3 hx hy
structure Dn (k:Nat→Int) (q:Nat→Nat) (a i c b:Nat):Prop where
 oth:∀x y,a≤x→x<y→y<b→x≠c→y≠c→k (q x)≤k (q y)
 hi:∀y,c<y→y<b→k (q c)≤k (q y)
 mid:∀x,i≤x→x<c→k (q c)<k (q x)
 lo:∀x,a≤x→x<i→x<c→k (q x)≤k (q c)
theorem Dn.next {k:Nat→Int} {q:Nat→Nat} {a i c b:Nat} (h:Dn k q a i (c+1) b) (hi:i≤c) (ha:a≤i) (hc:c+1<b):Dn k (swp q c (c+1)) a i c b:=by
 have hm:=h.mid c hi (by omega);refine⟨fun x y h1 h2 h3 h4 h5=>?_,fun y h1 h2=>?_,fun x h1 h2=>?_,fun x h1 h2 h3=>?_⟩
 ·by_cases hx:x=c+1
  ·subst hx;rw[keM,kaa _ _ _ y (by omega) (by omega)];exact h.oth c y (by omega) (by omega) h3 (by omega) (by omega)
  ·by_cases hy:y=c+1
   ·subst hy;rw[keM,kaa _ _ _ x (by omega) (by omega)];exact h.oth x c h1 (by omega) (by omega) (by omega) (by omega)
   ·rw[kaa _ _ _ x h4 hx,kaa _ _ _ y h5 hy];exact h.oth x y h1 h2 h3 hx hy
 ·rw[keL];by_cases hy:y=c+1
  ·subst hy;rw[keM];exact Int.le_of_lt hm
  ·rw[kaa _ _ _ y (by omega) hy];exact h.hi y (by omega) h2
 ·rw[keL,kaa _ _ _ x (by omega) (by omega)];exact h.mid x h1 (by omega)
 ·rw[keL,kaa _ _ _ x (by omega) (by omega)];exact h.lo x h1 h2 (by omega)
theorem Dn.done {k:Nat→Int} {q:Nat→Nat} {a i c b:Nat} (h:Dn k q a i c b) (hc:c≤i):Srt k q a b:=by
 intro x y h1 h2 h3;by_cases hx:x=c
 ·subst hx;exact h.hi y h2 h3
 ·by_cases hy:y=c
  ·subst hy;exact h.lo x h1 (by omega) h2
  ·exact h.oth x y h1 h2 h3 hx hy

@[irreducible] def keV (p:Nat→Nat) (a b n:Nat):Nat→Nat:=fun x=>if a≤x∧x<a+n then p (b+(x-a)) else if b≤x∧x<b+n then p (a+(x-b)) else p x
theorem kdA (p:Nat→Nat) (a b n x:Nat):keV p a b n x=if a≤x∧x<a+n then p (b+(x-a)) else if b≤x∧x<b+n then p (a+(x-b)) else p x:=by unfold keV;rfl
theorem kqS (p:Nat→Nat) (a b:Nat):keV p a b 0=p:=by
 funext x;rw[kdA,if_neg (by omega),if_neg (by omega)]
theorem km4 (p:Nat→Nat) (a b n:Nat) (h:a+n<b):swp (keV p a b n) (a+n) (b+n)=keV p a b (n+1):=by
 funext x
 rw[kaB];simp only[kdA];repeat' split
 all_goals first|omega|(congr 1;omega)|rfl
@[irreducible] def q8 (p:Nat→Nat) (a m b:Nat):Nat→Nat:=fun x=>if a≤x∧x<a+(b-m) then p (m+(x-a)) else if a+(b-m)≤x∧x<b then p (a+(x-(a+(b-m)))) else p x
theorem jn (p:Nat→Nat) (a m b x:Nat):q8 p a m b x=if a≤x∧x<a+(b-m) then p (m+(x-a)) else if a+(b-m)≤x∧x<b then p (a+(x-(a+(b-m)))) else p x:=by unfold q8;rfl
theorem krQ (p:Nat→Nat) (m i j:Nat) (hj:0<j) (hi:j<i) (hm:i≤m):q8 (keV p (m-i) m j) (m-(i-j)) m (m+j)=q8 p (m-i) m (m+j):=by
 funext x
 rw[jn,jn];simp only[kdA];repeat' split
 all_goals first|omega|(congr 1;omega)|rfl
theorem krR (p:Nat→Nat) (m i j:Nat) (hi:0<i) (hj:i<j) (hm:i≤m):q8 (keV p (m-i) (m+j-i) i) (m-i) m (m+(j-i))=q8 p (m-i) m (m+j):=by
 funext x
 rw[jn,jn];simp only[kdA];repeat' split
 all_goals first|omega|(congr 1;omega)|rfl
theorem krS (p:Nat→Nat) (m i:Nat) (hm:i≤m):keV p (m-i) m i=q8 p (m-i) m (m+i):=by
 funext x
 rw[jn,kdA];repeat' split
 all_goals first|omega|(congr 1;omega)|rfl
theorem km5 {p:Nat→Nat} {a m b:Nat} (h1:a≤m) (h2:m≤b):PermOn p (q8 p a m b) a b:=by
 refine⟨fun x hx=>by rw[jn,if_neg (by omega),if_neg (by omega)],fun x h3 h4=>?_,fun hinj x y hxy=>?_⟩
 ·rw[jn];split
  ·exact⟨_,by omega,by omega,rfl⟩
  ·rw[if_pos (by omega)];exact⟨_,by omega,by omega,rfl⟩
 ·rw[jn,jn] at hxy;repeat' split at hxy
  all_goals have:=hinj _ _ hxy
  all_goals omega

structure CutAt (k:Nat→Int) (q:Nat→Nat) (a s m e b:Nat):Prop where
 le1:a≤s
 le2:s≤m
 le3:m≤e
 le4:e≤b
 ll:∀x y,a≤x→x<s→e≤y→y<b→k (q x)≤k (q y)
 rl:∀x y,s≤x→x<m→m≤y→y<e→k (q y)<k (q x)
theorem CutAt.rot {k:Nat→Int} {q:Nat→Nat} {a s m e b:Nat} (h:CutAt k q a s m e b) (hl:Srt k q a m) (hr:Srt k q m b) (hst:St k q) :
  PermOn q (q8 q s m e) a b∧St k (q8 q s m e)∧Srt k (q8 q s m e) a s∧Srt k (q8 q s m e) s (s+(e-m))∧Srt k (q8 q s m e) (s+(e-m)) e∧Srt k (q8 q s m e) e b ∧
  (∀x y,a≤x→x<s+(e-m)→s+(e-m)≤y→y<b→k (q8 q s m e x)≤k (q8 q s m e y)):=by
 have h1:=h.le1;have h2:=h.le2;have h3:=h.le3;have h4:=h.le4;have hp:PermOn q (q8 q s m e) s e:=km5 h2 h3;refine⟨hp.wide h1 h4,hp.st hst (fun i j hi hij hj hk=>?_),fun i j hi hij hj=>?_,fun i j hi hij hj=>?_,fun i j hi hij hj=>?_,fun i j hi hij hj=>?_,fun x y hx1 hx2 hy1 hy2=>?_⟩
 ·rw[jn,jn] at hk ⊢
  repeat' split at hk
  all_goals first|omega|skip
  ·rw[if_pos (by omega),if_pos (by omega)];exact hst _ _ (by omega) hk
  ·have:=h.rl (s+(j-(s+(e-m)))) (m+(i-s)) (by omega) (by omega) (by omega) (by omega);omega
  ·rw[if_neg (by omega),if_pos (by omega),if_neg (by omega),if_pos (by omega)];exact hst _ _ (by omega) hk
 ·rw[hp.out i (by omega),hp.out j (by omega)];exact hl i j hi hij (by omega)
 ·rw[jn,if_pos (by omega),jn,if_pos (by omega)];exact hr _ _ (by omega) (by omega) (by omega)
 ·rw[jn,if_neg (by omega),if_pos (by omega),jn,if_neg (by omega),if_pos (by omega)];exact hl _ _ (by omega) (by omega) (by omega)
 ·rw[hp.out i (by omega),hp.out j (by omega)];exact hr i j (by omega) hij hj
 ·by_cases c1:x<s
  ·rw[hp.out x (by omega)];by_cases c2:y<e
   ·rw[jn,if_neg (by omega),if_pos (by omega)];exact hl _ _ hx1 (by omega) (by omega)
   ·rw[hp.out y (by omega)];exact h.ll x y hx1 c1 (by omega) hy2
  ·rw[jn,if_pos (by omega)];by_cases c2:y<e
   ·rw[jn,if_neg (by omega),if_pos (by omega)];exact Int.le_of_lt (h.rl _ _ (by omega) (by omega) (by omega) (by omega))
   ·rw[hp.out y (by omega)];exact hr _ _ (by omega) (by omega) hy2
theorem Srt.join {k:Nat→Int} {q r:Nat→Nat} {a m b:Nat} (h:∀x y,a≤x→x<m→m≤y→y<b→k (q x)≤k (q y)) (h1:Srt k r a m) (h2:Srt k r m b)
  (hl:∀x,a≤x→x<m→∃x',a≤x'∧x'<m∧r x=q x') (hr:∀y,m≤y→y<b→∃y',m≤y'∧y'<b∧r y=q y'):Srt k r a b:=by
 intro x y hx hxy hy;by_cases c1:y<m
 ·exact h1 x y hx hxy c1
 ·by_cases c2:m≤x
  ·exact h2 x y c2 hxy hy
  ·obtain⟨x',a1,a2,e1⟩:=hl x hx (by omega);obtain⟨y',b1,b2,e2⟩:=hr y (by omega) hy;rw[e1,e2];exact h x' y' a1 a2 b1 b2
end Go.Proofs.Ytlclleihoampdaa
namespace Go.Proofs.Ytlclleihoampdaa
open Go Go.Sx Go.Proofs
set_option maxRecDepth 100000 in
theorem kjz (a:Int) (x l c:Nat):Con Try.prog 115 [.agg [.int .u64 a,.val (.slice (some ⟨x,0,none⟩) l c)]] [] (fun v H R=>v=.int .u64 a∧H=[]∧R=[]):=by
 refine kj (kA 0 (by simp) (jr [] (kg kr kru ?_)))
 intro _ _ _ _ _ _ _ _ _ _ _ _ _ _ _ _ _ _ _ _ _ _ _ _ _ _ _ _ _ _ _ _ _ _ _ _ _ _ _ _ _ _ _;have hm:=kr;generalize Try.prog=P at *;cbv
theorem kkH (a:Int):Con Try.prog 137 [.int .u64 a] [] (fun v H R=>v=.bool false∧H=[]∧R=[]):=by
 refine kj (kA 0 (by simp) (jr [] (kg kr krF ?_)))
 intro _ _ _ _ _ _ _ _ _ _ _ _ _ _ _ _ _ _ _ _ _ _ _ qc _ _ _ _ _ _ _ _ _ _ _ _ _ _ _ _ _ _ _;have hm:=kr;generalize Try.prog=P at *;cbv;refine⟨?_,trivial⟩
 rw[qc];simp[cV]
def kcU (a b:Int):Int:=if a<b then -1 else if a>b then 1 else 0
theorem ke5 {a b:Int}:kcU a b<0↔a<b:=by unfold kcU;split<;>(try split)<;>omega
theorem khI {x y:Int} {i j:Nat} (h1:x=i) (h2:y=j):cV .lss x y=decide (i<j):=by rw[kqj,decide_eq_decide];omega
theorem klu {x y:Int} {i j:Nat} (h1:x=i) (h2:y=j):cV .gtr x y=decide (j<i):=by rw[kql,decide_eq_decide];omega
theorem ke6 {x:Nat} (h:x<1000000):IntKind.i64.wrap (bV .shr .u64 (IntKind.u64.wrap (x:Int)) 1)=((x / 2:Nat):Int):=by
 rw[wrap_u64 (by omega) (by omega)];have e:bV .shr .u64 (x:Int) 1=((x / 2:Nat):Int):=by
  simp[bV,Int.fdiv_eq_ediv,IntKind.bits]
 rw[e,wrap_i64 (by omega) (by omega)]
set_option maxRecDepth 100000 in
theorem khJ (a b:Int):Con Try.prog 132 [.int .u64 a,.int .u64 b] [] (fun v H R=>v=.int .i64 (kcU a b)∧H=[]∧R=[]):=by
 have h138:=kkH;refine kj (kA 0 (by simp) (jr [] (kg kr krC ?_)))
 intro _ vc _ _ _ _ _ _ _ _ _ _ _ _ _ _ _ _ _ _ _ _ _ qc _ _ _ _ _ _ _ _ _ _ _ _ _ _ _ _ _ _ _;have hm:=kr;generalize Try.prog=P at *;generalize hs:kcU a b=g at *;cbv;refine ka (ρ:=[]) (h138 a) ⟨by rfl,by rfl,by rfl,by cbv⟩ ?_
 rintro v H R js ⟨rfl,rfl,rfl⟩;cbv;refine ka (ρ:=[]) (h138 b) ⟨by rfl,by rfl,by rfl,by cbv⟩ ?_
 rintro v H R js ⟨rfl,rfl,rfl⟩;cbv;unfold kcU at hs;by_cases h1:a<b
 ·have e:vc .lss a b=true:=by rw[qc];simp[cV,h1]
  rw[e];cbv
  rw[if_pos h1] at hs;subst hs;exact⟨rfl,trivial⟩
 ·have e:vc .lss a b=false:=by rw[qc];simp[cV];omega
  rw[e];cbv
  by_cases h2:a>b
  ·have e:vc .gtr a b=true:=by rw[qc];simp[cV];omega
   rw[e];cbv
   rw[if_neg h1,if_pos h2] at hs;subst hs;exact⟨rfl,trivial⟩
  ·have e:vc .gtr a b=false:=by rw[qc];simp[cV];omega
   rw[e];cbv
   rw[if_neg h1,if_neg h2] at hs;subst hs;exact⟨rfl,trivial⟩
set_option maxRecDepth 100000 in
theorem kdB (a b:Int) (x l c x' l' c':Nat):Con Try.prog 131 [.agg [.int .u64 a,.val (.slice (some ⟨x,0,none⟩) l c)],.agg [.int .u64 b,.val (.slice (some ⟨x',0,none⟩) l' c')],.ptr 0 .z 1 0] [.one 202 [.fn 115 []]]
  (fun v H R=>v=.int .i64 (kcU a b)∧H=[.one 202 [.fn 115 []]]∧R=[]):=by
 have h63:=kjz;have h112:=khJ;refine kj (kA 1 (by simp) (jr [] (kg kr krB ?_)))
 intro _ _ _ _ _ _ _ _ _ _ _ _ _ _ _ _ _ _ _ _ _ _ _ _ _ _ _ _ _ _ _ _ _ _ _ _ _ _ _ _ _ _ _;have hm:=kr;generalize Try.prog=P at *;generalize hs:kcU a b=g at *;cbv;refine ka (ρ:=[]) (h63 a x l c) ⟨by rfl,by rfl,by rfl,by cbv⟩ ?_
 rintro v H R js ⟨rfl,rfl,rfl⟩;cbv;refine ka (ρ:=[]) (h63 b x' l' c') ⟨by rfl,by rfl,by rfl,by cbv⟩ ?_
 rintro v H R js ⟨rfl,rfl,rfl⟩;cbv;refine ka (ρ:=[]) (h112 a b) ⟨by rfl,by rfl,by rfl,by cbv⟩ ?_
 rintro v H R js ⟨rfl,rfl,rfl⟩;rw[hs];cbv
theorem kdC (k:Nat→Int) (x l c p:Nat→Nat) (i j:Nat) :
  kdF (kdF (kdF (kdF (fun m=>[.int .u64 (k (p m)),.val (.slice (some ⟨x (p m),0,none⟩) (l (p m)) (c (p m)))]) i 0 (.int .u64 (k (p j)))) i 1 (.val (.slice (some ⟨x (p j),0,none⟩) (l (p j)) (c (p j))))) j 0 (.int .u64 (k (p i)))) j 1 (.val (.slice (some ⟨x (p i),0,none⟩) (l (p i)) (c (p i)))) =
  fun m=>[.int .u64 (k (swp p i j m)),.val (.slice (some ⟨x (swp p i j m),0,none⟩) (l (swp p i j m)) (c (swp p i j m)))]:=by
 funext m
 rw[jN,jN,jN,jN,kaB];by_cases h1:m=i<;>by_cases h2:m=j<;>simp_all
def kQ (k:Nat→Int) (x l c:Nat→Nat) (N C:Nat) (p:Nat→Nat):SB:=.bufA 201 2 N (fun m=>[.int .u64 (k (p m)),.val (.slice (some ⟨x (p m),0,none⟩) (l (p m)) (c (p m)))]) C
theorem kD (k:Nat→Int) (x l c p:Nat→Nat) (ρ:List (Nat×Ix)) (n:Nat):(fun m=>renL ρ n [.int .u64 (k (p m)),.val (.slice (some ⟨x (p m),0,none⟩) (l (p m)) (c (p m)))])=fun m=>[.int .u64 (k (p m)),.val (.slice (some ⟨x (p m),0,none⟩) (l (p m)) (c (p m)))]:=by
 funext m;simp[renL,ren]
set_option maxRecDepth 100000 in
theorem km6 (k:Nat→Int) (x l c p:Nat→Nat) (N C cap a b n:Nat) (hN:N≤100000) (h1:a+n≤b) (h2:b+n≤N) :
  Con Try.prog 141 [.slice 0 .z 2 N cap,.int .i64 a,.int .i64 b,.int .i64 n,.fn 131 [.ptr 1 .z 1 0]] [kQ k x l c N C p,.one 202 [.fn 115 []]]
  (fun v H R=>v=.tup []∧R=[]∧H=[kQ k x l c N C (keV p a b n),.one 202 [.fn 115 []]]):=by
 refine kj (kA 2 (by simp) (km (kg kr krI ?_)))
 intro vb _ _ vtoN _ vaddN _ _ _ _ _ _ _ _ _ _ _ _ _ _ _ hw qb qc _ qtoN _ qaddN _ _ _ _ _ _ _ _ _ _ _ _ _ _ _;have hm:=kr;generalize Try.prog=P at *;have hadd0:∀i,vaddN 0 i=i:=fun i=>by simp only[qaddN,Nat.zero_add]
 have hadd:∀(x y:Int) (i j:Nat),x=i→y=j→i+j<1000000→vb .add .i64 x y=((i+j:Nat):Int):=fun x y i j h1 h2 h=>by rw[qb,kh (by omega) (by omega)];omega
 have hsw:=kdC k x l c;have hsR0:=kqS p a b;have hsRs:=km4 p a b;generalize hSR:keV p a b=SR at *;generalize haI:(a:Int)=aI at *;generalize hbI:(b:Int)=bI at *;generalize hnI:(n:Int)=nI at *;cbv;refine kl (α:=Int×Nat) [11,12,13,14,15,16,17,18,19,20,21,22,23,24,25,26,27,28,29,30,31,32,33,34,35,36,37] []
  (fun(i,q)=>[(10,.int .i64 i)])
  (fun(i,q)=>[(0,.bufA 201 2 N (fun m=>[.int .u64 (k (SR q m)),.val (.slice (some ⟨x (SR q m),0,none⟩) (l (SR q m)) (c (SR q m)))]) C)])
  (fun(i,q)=>i=q∧q≤n)
  (fun(i,q)=>n-q) hw hm ?_ ?_
 ·refine Cv.genAt [10] [] (Cv.rowsEq 0 (fun m=>[.int .u64 (k (SR 0 m)),.val (.slice (some ⟨x (SR 0 m),0,none⟩) (l (SR 0 m)) (c (SR 0 m)))]) (by rfl) (by intro m _;rw[hsR0]) (Cv.fold [11,12,13,14,15,16,17,18,19,20,21,22,23,24,25,26,27,28,29,30,31,32,33,34,35,36,37] 2 [] (by exact Nat.le_refl _) (by exact Nat.le_of_ble_eq_true rfl) (by rfl) (by cbv) ?_))
  intro js;refine⟨(_,0),?_,js,rfl⟩
  exact⟨rfl,Nat.zero_le _⟩
 ·rintro⟨i,q⟩ js ⟨hi,hq⟩;cbv;split
  rotate_left
  ·rename_i hlt;have hin:q=n:=by rw[qc,ke] at hlt;simp only[nc] at *;omega
   subst hin;cbv
  ·rename_i hlt;have hqn:q<n:=by rw[qc,kf] at hlt;simp only[nc] at *;omega
   cbv;obtain⟨u,hu⟩:∃u,u=vb .add .i64 aI i:=⟨_,rfl⟩;obtain⟨v,hv⟩:∃u,u=vb .add .i64 bI i:=⟨_,rfl⟩;have hu':u=((a+q:Nat):Int):=hu.trans (hadd aI i a q haI.symm hi (by omega));have hv':v=((b+q:Nat):Int):=hv.trans (hadd bI i b q hbI.symm hi (by omega));obtain⟨A,hA⟩:∃A,A=a+q:=⟨_,rfl⟩;obtain⟨B,hB⟩:∃A,A=b+q:=⟨_,rfl⟩;obtain⟨w,hw1⟩:∃u,u=vb .add .i64 i 1:=⟨_,rfl⟩;have hw':w=((q+1:Nat):Int):=hw1.trans (hadd i 1 q 1 hi rfl (by omega));have htu:vtoN u=A:=by rw[qtoN,hu',hA];rfl
   have htv:vtoN v=B:=by rw[qtoN,hv',hB];rfl
   have hru:InR u N:=⟨by omega⟩;have hrv:InR v N:=⟨by omega⟩;have hne:=hsRs q (by omega);rw[←hA,←hB] at hne;have hfin:(w=((q+1:Nat):Int)∧q+1≤n)∧n-(q+1)<n-q:=⟨⟨hw',by omega⟩,by omega⟩;have hlA:A<N:=by omega
   have hlB:B<N:=by omega
   have hl0:0<N:=by omega
   rw[←hu,←hv,htu,htv,hadd0,hadd0];cbv;repeat (refine And.intro (by first|exact hru|exact hrv|exact⟨hlA⟩|exact⟨hlB⟩|exact⟨hl0⟩) ?_)
   rw[hsw (SR q) A B,hne,←hw1];refine Cv.fold [11,12,13,14,15,16,17,18,19,20,21,22,23,24,25,26,27,28,29,30,31,32,33,34,35,36,37] 2 [] (by exact Nat.le_refl _) (by exact Nat.le_of_ble_eq_true rfl) (by rfl) (by cbv) ?_
   intro js2;exact⟨(_,q+1),hfin,js2,rfl⟩
set_option maxRecDepth 100000 in
theorem kpL (k:Nat→Int) (x l c p:Nat→Nat) (N C cap a m b:Nat) (hN:N≤100000) (h1:a<m) (h2:m<b) (h3:b≤N) :
  Con Try.prog 140 [.slice 0 .z 2 N cap,.int .i64 a,.int .i64 m,.int .i64 b,.fn 131 [.ptr 1 .z 1 0]] [kQ k x l c N C p,.one 202 [.fn 115 []]]
  (fun v H R=>v=.tup []∧R=[]∧H=[kQ k x l c N C (q8 p a m b),.one 202 [.fn 115 []]]):=by
 have hswap:∀(q:Nat→Nat) (aI bI nI:Int) (a b n:Nat),aI=a→bI=b→nI=n→a+n≤b→b+n≤N→Con Try.prog 141 [.slice 0 .z 2 N cap,.int .i64 aI,.int .i64 bI,.int .i64 nI,.fn 131 [.ptr 1 .z 1 0]] [kQ k x l c N C q,.one 202 [.fn 115 []]]
   (fun v H R=>v=.tup []∧R=[]∧H=[kQ k x l c N C (keV q a b n),.one 202 [.fn 115 []]]):=fun q aI bI nI a b n e1 e2 e3 g1 g2=>by
  subst e1 e2 e3;exact km6 k x l c q N C cap a b n hN g1 g2
 have hl:=fun q=>krQ q m
 have hr:=fun q=>krR q m
 have he:=fun q=>krS q m
 refine kj (kA 2 (by simp) (km (kg kr krH ?_)))
 intro vb _ _ _ _ _ _ _ _ _ _ _ _ _ _ _ _ _ _ _ _ hw qb qc _ _ _ _ _ _ _ _ _ _ _ _ _ _ _ _ _ _ _;have hm:=kr;generalize Try.prog=P at *;have hsub:∀(x y:Int) (i j:Nat),x=i→y=j→j≤i→i<1000000→vb .sub .i64 x y=((i-j:Nat):Int):=fun x y i j h1 h2 h h'=>by rw[qb,ky (by omega) (by omega)];omega
 have hadd:∀(x y:Int) (i j:Nat),x=i→y=j→i+j<1000000→vb .add .i64 x y=((i+j:Nat):Int):=fun x y i j h1 h2 h=>by rw[qb,kh (by omega) (by omega)];omega
 generalize hswp:@keV=SW at *;generalize hrot:@q8=RO at *;generalize haI:(a:Int)=aI at *;generalize hbI:(b:Int)=bI at *;generalize hmI:(m:Int)=mI at *;obtain⟨i0,hi0⟩:∃u,u=vb .sub .i64 mI aI:=⟨_,rfl⟩;obtain⟨j0,hj0⟩:∃u,u=vb .sub .i64 bI mI:=⟨_,rfl⟩;have hi0':i0=((m-a:Nat):Int):=hi0.trans (hsub mI aI m a hmI.symm haI.symm (by omega) (by omega));have hj0':j0=((b-m:Nat):Int):=hj0.trans (hsub bI mI b m hbI.symm hmI.symm (by omega) (by omega));generalize hF:RO p a m b=F;have hF0:RO p (m-(m-a)) m (m+(b-m))=F:=by rw[←hF];congr 1<;>omega
 have hinv0:i0=((m-a:Nat):Int)∧j0=((b-m:Nat):Int)∧0<m-a∧0<b-m∧m-a≤m∧m+(b-m)≤N∧RO p (m-(m-a)) m (m+(b-m))=F:=⟨hi0',hj0',by omega,by omega,by omega,by omega,hF0⟩;cbv;rw[←hi0,←hj0];refine kl (α:=Int×Int×Nat×Nat×(Nat→Nat)) [18,19,20,21,22,23,24,25,26,27,28,29,30,31,32,33,34,35,36,37,38,39,40,41,42,43,44,45,46,47,48,49] []
  (fun(iI,jI,i,j,q)=>[(10,.int .i64 iI),(11,.int .i64 jI)])
  (fun(iI,jI,i,j,q)=>[(0,kQ k x l c N C q)])
  (fun(iI,jI,i,j,q)=>iI=i∧jI=j∧0<i∧0<j∧i≤m∧m+j≤N∧RO q (m-i) m (m+j)=F)
  (fun(iI,jI,i,j,q)=>i+j) hw hm ?_ ?_
 ·refine Cv.fold [18,19,20,21,22,23,24,25,26,27,28,29,30,31,32,33,34,35,36,37,38,39,40,41,42,43,44,45,46,47,48,49] 2 [] (by exact Nat.le_refl _) (by exact Nat.le_of_ble_eq_true rfl) (by rfl) (by cbv) ?_
  intro js;exact⟨(_,_,_,_,_),hinv0,js,rfl⟩
 ·rintro⟨iI,jI,i,j,q⟩ js ⟨g1,g2,g3,g4,g5,g6,g7⟩;clear hinv0 hi0' hj0' hF0;cbv;split
  rotate_left
  ·rename_i hlt;have hij:i=j:=by rw[qc,ql] at hlt;simp only[nc] at *;omega
   have hfin:SW q (m-i) m i=F:=by rw[he q i g5,←g7,hij]
   have hu0:∀u:Int,u=vb .sub .i64 mI iI→u=((m-i:Nat):Int):=fun u hu=>hu.trans (hsub mI iI m i hmI.symm g1 g5 (by omega))
   obtain⟨D,hD⟩:∃D,D=m-i:=⟨_,rfl⟩;have hsw:=fun(u:Int) (hu:u=(D:Int))=>hswap q u mI iI D m i hu hmI.symm g1 (by omega) (by omega)
   rw[←hD] at hfin hu0;rw[hfin] at hsw;clear hswap hl hr he;cbv;obtain⟨u,hu⟩:∃u,u=vb .sub .i64 mI iI:=⟨_,rfl⟩;rw[←hu];refine ka (ρ:=[(0,.z),(1,.z)]) (hsw u (hu0 u hu)) ⟨by rfl,by rfl,by rfl,by cbv;rw[kD];((repeat' first|(refine And.intro ?_ ?_)|exact trivial|exact⟨Nat.le_refl _⟩|exact kb _|exact fun _=>rfl|(simp only[renL3];done)|(show SB.roA _ _ _=SB.roA _ _ _;rfl)|exact funext fun _=>rfl)<;>rfl)⟩ ?_
   rintro v H R js ⟨rfl,rfl,rfl⟩;cbv;(repeat refine And.intro (fun _=>rfl) ?_);rw[kD]
  ·rename_i hlt;have hij:i≠j:=by rw[qc,jl] at hlt;simp only[nc] at *;omega
   cbv;split
   ·rename_i hgt;have hji:j<i:=by rw[qc,kz] at hgt;simp only[nc] at *;omega
    have hu0:∀u:Int,u=vb .sub .i64 mI iI→u=((m-i:Nat):Int):=fun u hu=>hu.trans (hsub mI iI m i hmI.symm g1 g5 (by omega))
    have hv0:∀u:Int,u=vb .sub .i64 iI jI→u=((i-j:Nat):Int):=fun u hu=>hu.trans (hsub iI jI i j g1 g2 (by omega) (by omega))
    have hnext:=hl q i j g4 hji g5;rw[g7] at hnext;obtain⟨D,hD⟩:∃D,D=m-i:=⟨_,rfl⟩;have hsw:=fun(u:Int) (hu:u=(D:Int))=>hswap q u mI jI D m j hu hmI.symm g2 (by omega) (by omega)
    obtain⟨E,hE⟩:∃E,E=i-j:=⟨_,rfl⟩;have hinv:∀u:Int,u=(E:Int)→(u=E∧jI=j∧0<E∧0<j∧E≤m∧m+j≤N∧RO (SW q D m j) (m-E) m (m+j)=F)∧E+j<i+j:=fun u hu=>⟨⟨hu,g2,by omega,g4,by omega,g6,by rw[hD,hE];exact hnext⟩,by omega⟩
    rw[←hD] at hu0;rw[←hE] at hv0;clear hswap hl hr he hnext;cbv;obtain⟨u,hu⟩:∃u,u=vb .sub .i64 mI iI:=⟨_,rfl⟩;obtain⟨v,hv⟩:∃u,u=vb .sub .i64 iI jI:=⟨_,rfl⟩;rw[←hu];refine ka (ρ:=[(0,.z),(1,.z)]) (hsw u (hu0 u hu)) ⟨by rfl,by rfl,by rfl,by cbv;rw[kD];((repeat' first|(refine And.intro ?_ ?_)|exact trivial|exact⟨Nat.le_refl _⟩|exact kb _|exact fun _=>rfl|(simp only[renL3];done)|(show SB.roA _ _ _=SB.roA _ _ _;rfl)|exact funext fun _=>rfl)<;>rfl)⟩ ?_
    rintro v0 H R js2 ⟨rfl,rfl,rfl⟩;cbv;(repeat refine And.intro (fun _=>rfl) ?_);rw[kD];cbv;rw[←hv];refine Cv.fold [18,19,20,21,22,23,24,25,26,27,28,29,30,31,32,33,34,35,36,37,38,39,40,41,42,43,44,45,46,47,48,49] 2 [] (by exact Nat.le_refl _) (by exact Nat.le_of_ble_eq_true rfl) (by rfl) (by cbv) ?_
    intro js3;exact⟨(_,_,E,_,_),hinv v (hv0 v hv),js3,rfl⟩
   ·rename_i hgt;have hji:i<j:=by rw[qc,ku] at hgt;simp only[nc] at *;omega
    have hu0:∀u:Int,u=vb .sub .i64 mI iI→u=((m-i:Nat):Int):=fun u hu=>hu.trans (hsub mI iI m i hmI.symm g1 g5 (by omega))
    have hv0:∀u:Int,u=vb .sub .i64 jI iI→u=((j-i:Nat):Int):=fun u hu=>hu.trans (hsub jI iI j i g2 g1 (by omega) (by omega))
    have hx0:∀x0:Int,x0=vb .sub .i64 (vb .add .i64 mI jI) iI→x0=((m+j-i:Nat):Int):=fun x0 hx=>hx.trans (hsub _ iI (m+j) i (hadd mI jI m j hmI.symm g2 (by omega)) g1 (by omega) (by omega))
    have hnext:=hr q i j g3 hji g5;rw[g7] at hnext;obtain⟨D,hD⟩:∃D,D=m-i:=⟨_,rfl⟩;obtain⟨G,hG⟩:∃G,G=m+j-i:=⟨_,rfl⟩;have hsw:=fun(u x0:Int) (hu:u=(D:Int)) (hx:x0=(G:Int))=>hswap q u x0 iI D G i hu hx g1 (by omega) (by omega)
    obtain⟨E,hE⟩:∃E,E=j-i:=⟨_,rfl⟩;have hinv:∀u:Int,u=(E:Int)→(iI=i∧u=E∧0<i∧0<E∧i≤m∧m+E≤N∧RO (SW q D G i) (m-i) m (m+E)=F)∧i+E<i+j:=fun u hu=>⟨⟨g1,hu,g3,by omega,g5,by omega,by rw[hD,hE,hG];exact hnext⟩,by omega⟩
    rw[←hD] at hu0;rw[←hE] at hv0;rw[←hG] at hx0;clear hswap hl hr he hnext;cbv;obtain⟨u,hu⟩:∃u,u=vb .sub .i64 mI iI:=⟨_,rfl⟩;obtain⟨v,hv⟩:∃u,u=vb .sub .i64 jI iI:=⟨_,rfl⟩;obtain⟨x0,hx⟩:∃u,u=vb .sub .i64 (vb .add .i64 mI jI) iI:=⟨_,rfl⟩;rw[←hu,←hx];refine ka (ρ:=[(0,.z),(1,.z)]) (hsw u x0 (hu0 u hu) (hx0 x0 hx)) ⟨by rfl,by rfl,by rfl,by cbv;rw[kD];((repeat' first|(refine And.intro ?_ ?_)|exact trivial|exact⟨Nat.le_refl _⟩|exact kb _|exact fun _=>rfl|(simp only[renL3];done)|(show SB.roA _ _ _=SB.roA _ _ _;rfl)|exact funext fun _=>rfl)<;>rfl)⟩ ?_
    rintro v0 H R js2 ⟨rfl,rfl,rfl⟩;cbv;(repeat refine And.intro (fun _=>rfl) ?_);rw[kD];cbv;rw[←hv];refine Cv.fold [18,19,20,21,22,23,24,25,26,27,28,29,30,31,32,33,34,35,36,37,38,39,40,41,42,43,44,45,46,47,48,49] 2 [] (by exact Nat.le_refl _) (by exact Nat.le_of_ble_eq_true rfl) (by rfl) (by cbv) ?_
    intro js3;exact⟨(_,_,_,E,_),hinv v (hv0 v hv),js3,rfl⟩
set_option maxRecDepth 100000 in
set_option maxHeartbeats 4000000 in
theorem kpM (k:Nat→Int) (x l c p:Nat→Nat) (N C cap a b:Nat) (hN:N≤100000) (h1:a≤b) (h2:b≤N) (hst:St k p) :
  Con Try.prog 138 [.slice 0 .z 2 N cap,.int .i64 a,.int .i64 b,.fn 131 [.ptr 1 .z 1 0]] [kQ k x l c N C p,.one 202 [.fn 115 []]]
  (fun v H R=>v=.tup []∧R=[]∧∃q,(PermOn p q a b∧St k q∧Srt k q a b)∧H=[kQ k x l c N C q,.one 202 [.fn 115 []]]):=by
 have hcmp:=kdB;have hsw:=kdC k x l c;refine kj (kA 2 (by simp) (km (kg kr krG ?_)))
 intro vb vc _ vtoN _ vaddN _ _ _ _ _ _ _ _ _ _ _ _ _ _ _ hw qb qc _ qtoN _ qaddN _ _ _ _ _ _ _ _ _ _ _ _ _ _ _;have hm:=kr;generalize Try.prog=P at *;have hadd:∀(x y:Int) (i j:Nat),x=i→y=j→i+j<1000000→vb .add .i64 x y=((i+j:Nat):Int):=fun x y i j h1 h2 h=>by rw[qb,kh (by omega) (by omega)];omega
 have hsub:∀(x y:Int) (i j:Nat),x=i→y=j→j≤i→i<1000000→vb .sub .i64 x y=((i-j:Nat):Int):=fun x y i j h1 h2 h h'=>by rw[qb,ky (by omega) (by omega)];omega
 have hadd0:∀i,vaddN 0 i=i:=fun i=>by simp only[qaddN,Nat.zero_add]
 have hsg:∀a b,vc .lss (kcU a b) 0=decide (a<b):=fun a b=>by
  rw[qc];simp only[cV];rw[decide_eq_decide];exact ke5
 have hswp:=@kb3;have hswst:=@khH;generalize hSg:kcU=SG at *;generalize haI:(a:Int)=aI at *;generalize hbI:(b:Int)=bI at *;obtain⟨i0,hi0⟩:∃u,u=vb .add .i64 aI 1:=⟨_,rfl⟩;have hi0':i0=((a+1:Nat):Int):=hi0.trans (hadd aI 1 a 1 haI.symm rfl (by omega));have hinv0:i0=((a+1:Nat):Int)∧a+1≤a+1∧(a+1≤b∨a+1=a+1)∧PermOn p p a b∧St k p∧Srt k p a (a+1):=⟨hi0',by omega,by omega,PermOn.refl _ _ _,hst,fun i j h1 h2 h3=>by omega⟩;cbv;rw[←hi0];refine kl (α:=Int×Nat×(Nat→Nat)) ([9]++[12,13,14,15,16,17,18,19,20,21,22,23,24,25,26,27,28,29,30,31,32,33,34,35,36,37,38,39,40,41,42,43,44,45,46,47,48,49,50,51,52]) []
  (fun(iI,i,q)=>[(8,.int .i64 iI)])
  (fun(iI,i,q)=>[(0,kQ k x l c N C q)])
  (fun(iI,i,q)=>iI=i∧a+1≤i∧(i≤b∨i=a+1)∧PermOn p q a b∧St k q∧Srt k q a i)
  (fun(iI,i,q)=>b+1-i) hw hm ?_ ?_
 ·refine Cv.fold ([9]++[12,13,14,15,16,17,18,19,20,21,22,23,24,25,26,27,28,29,30,31,32,33,34,35,36,37,38,39,40,41,42,43,44,45,46,47,48,49,50,51,52]) 2 [] (by exact Nat.le_refl _) (by exact Nat.le_of_ble_eq_true rfl) (by rfl) (by cbv) ?_
  intro js;exact⟨(_,_,_),hinv0,js,rfl⟩
 ·rintro⟨iI,i,q⟩ js ⟨g1,g2,g3,g4,g5,g6⟩;clear hinv0 hi0' hi0;cbv;split
  rotate_left
  ·rename_i hlt;have hib:¬i<b:=by rw[qc,ke] at hlt;simp only[nc] at *;omega
   have hfin:PermOn p q a b∧St k q∧Srt k q a b:=⟨g4,g5,fun x y e1 e2 e3=>g6 x y e1 e2 (by omega)⟩;clear g4 g5 g6;cbv;exact⟨q,hfin,rfl⟩
  ·rename_i hlt;have hib:i<b:=by rw[qc,kf] at hlt;simp only[nc] at *;omega
   have hinv1:iI=i∧a≤i∧i≤i∧PermOn p q a b∧St k q∧Ins k q a i i:=⟨g1,by omega,by omega,g4,g5,Ins.start g6⟩;clear g4 g5 g6;cbv;refine kl (α:=Int×Nat×(Nat→Nat)) [15,16,17,18,19,20,21,22,23,24,25,26,27,28,29,30,31,32,33,34,35,36,37,38,39,40,41,42,43,44,45,46,47,48,49,50,51,52] []
    (fun(jI,j,q)=>[(9,.int .i64 jI)])
    (fun(jI,j,q)=>[(0,kQ k x l c N C q)])
    (fun(jI,j,q)=>jI=j∧a≤j∧j≤i∧PermOn p q a b∧St k q∧Ins k q a j i)
    (fun(jI,j,q)=>j) hw hm ?_ ?_
   ·refine Cv.fold [15,16,17,18,19,20,21,22,23,24,25,26,27,28,29,30,31,32,33,34,35,36,37,38,39,40,41,42,43,44,45,46,47,48,49,50,51,52] 2 [] (by exact Nat.le_refl _) (by exact Nat.le_of_ble_eq_true rfl) (by rfl) (by cbv) ?_
    intro js2;exact⟨(_,_,_),hinv1,js2,rfl⟩
   ·rintro⟨jI,j,q⟩ js2 ⟨f1,f2,f3,f4,f5,f6⟩;clear hinv1;have hdone:(j=a∨(a<j∧k (q (j-1))≤k (q j)))→Srt k q a (i+1):=fun h=>f6.done h
    have hw0:∀u:Int,u=vb .add .i64 iI 1→(u=((i+1:Nat):Int)∧a+1≤i+1∧(i+1≤b∨i+1=a+1))∧b+1-(i+1)<b+1-i:=fun u hu=>⟨⟨hu.trans (hadd iI 1 i 1 g1 rfl (by omega)),by omega,by omega⟩,by omega⟩
    have hja:vc .gtr jI aI=decide (a<j):=by
     rw[qc];simp only[cV];rw[decide_eq_decide,←haI,f1];simp only[nc];omega
    by_cases hj:a<j
    ·obtain⟨j',hj'⟩:∃j',j=j'+1:=⟨j-1,by omega⟩;subst hj';have hja2:vc .gtr jI aI=true:=by rw[hja];simpa using hj
     have hpred:∀u:Int,u=vb .sub .i64 jI 1→u=((j':Nat):Int)∧vtoN u=j'∧InR u N:=fun u hu=>by
      have e:u=((j':Nat):Int):=hu.trans (by rw[hsub jI 1 (j'+1) 1 f1 rfl (by omega) (by omega)];rfl);exact⟨e,by rw[qtoN,e];rfl,⟨by omega⟩⟩
     have hnext:k (q (j'+1))<k (q j')→PermOn p (swp q (j'+1) j') a b∧St k (swp q (j'+1) j')∧Ins k (swp q (j'+1) j') a j' i:=fun h=>by
      rw[kgf];exact⟨f4.trans (hswp ⟨by omega,by omega⟩ ⟨by omega,by omega⟩),hswst f5 (by omega),f6.next (by omega) (by omega) h⟩
     have hstop:¬k (q (j'+1))<k (q j')→PermOn p q a b∧St k q∧Srt k q a (i+1):=fun h=>⟨f4,f5,hdone (.inr ⟨hj,by simp only[Nat.add_sub_cancel];omega⟩)⟩
     have hlb:j'+1<N:=by omega
     have hlb':j'<N:=by omega
     have hl0:0<N:=by omega
     have hmu:j'<j'+1:=by omega
     have haj:a≤j':=by omega
     have hji:j'≤i:=by omega
     obtain⟨J,hJ⟩:∃J,J=j'+1:=⟨_,rfl⟩;have htJ:vtoN jI=J:=by rw[qtoN,f1,hJ];rfl
     have hrJ:InR jI N:=⟨by omega⟩;rw[←hJ] at hnext hstop hlb f1;clear hdone f4 f5 f6 hja hj hlt;generalize @PermOn=PO at *;generalize @St=ST at *;generalize @Srt=SR at *;generalize @Ins=IN at *;generalize hSW:@swp=SW at *;cbv;rw[hja2];cbv;obtain⟨u,hu⟩:∃u,u=vb .sub .i64 jI 1:=⟨_,rfl⟩;obtain⟨hu',htu,hru⟩:=hpred u hu;rw[←hu,htJ,htu,hadd0,hadd0];cbv;repeat (refine And.intro (by first|exact hru|exact hrJ|exact⟨hlb⟩|exact⟨hlb'⟩) ?_)
     refine ka (ρ:=[(1,.z)]) (hcmp _ _ _ _ _ _ _ _) ⟨by rfl,by rfl,by rfl,by cbv;exact⟨fun _=>rfl,trivial⟩⟩ ?_
     rintro v H R js3 ⟨rfl,rfl,rfl⟩;cbv;(repeat refine And.intro (fun _=>rfl) ?_);rw[hsg];by_cases hk:k (q J)<k (q j')
     ·obtain⟨k1,k2,k3⟩:=hnext hk;rw[decide_eq_true hk];cbv;(repeat refine And.intro (fun _=>rfl) ?_);rw[←hu,htJ,htu,hadd0,hadd0];cbv;repeat (refine And.intro (by first|exact hru|exact hrJ|exact⟨hlb⟩|exact⟨hlb'⟩|exact⟨hl0⟩) ?_)
      rw[hsw q J j'];refine Cv.fold [15,16,17,18,19,20,21,22,23,24,25,26,27,28,29,30,31,32,33,34,35,36,37,38,39,40,41,42,43,44,45,46,47,48,49,50,51,52] 2 [] (by exact Nat.le_refl _) (by exact Nat.le_of_ble_eq_true rfl) (by rfl) (by cbv) ?_
      intro js4;exact⟨(_,j',_),⟨⟨hu',haj,hji,k1,k2,k3⟩,hmu⟩,js4,rfl⟩
     ·obtain⟨k1,k2,k3⟩:=hstop hk;rw[decide_eq_false hk];clear hnext hstop;cbv;obtain⟨u2,hu2⟩:∃u,u=vb .add .i64 iI 1:=⟨_,rfl⟩;obtain⟨k4,k5⟩:=hw0 u2 hu2;rw[←hu2];refine Cv.fold ([9]++[12,13,14,15,16,17,18,19,20,21,22,23,24,25,26,27,28,29,30,31,32,33,34,35,36,37,38,39,40,41,42,43,44,45,46,47,48,49,50,51,52]) 2 [] (by exact Nat.le_refl _) (by exact Nat.le_of_ble_eq_true rfl) (by rfl) (by cbv) ?_
      intro js4;exact⟨(_,_,_),⟨⟨k4.1,k4.2.1,k4.2.2,k1,k2,k3⟩,k5⟩,js4,rfl⟩
    ·have hja2:vc .gtr jI aI=false:=by rw[hja];simpa using hj
     have k3:=hdone (.inl (by omega));clear hdone f6;generalize @PermOn=PO at *;generalize @St=ST at *;generalize @Srt=SR at *;cbv;rw[hja2];cbv;obtain⟨u2,hu2⟩:∃u,u=vb .add .i64 iI 1:=⟨_,rfl⟩;obtain⟨k4,k5⟩:=hw0 u2 hu2;rw[←hu2];refine Cv.fold ([9]++[12,13,14,15,16,17,18,19,20,21,22,23,24,25,26,27,28,29,30,31,32,33,34,35,36,37,38,39,40,41,42,43,44,45,46,47,48,49,50,51,52]) 2 [] (by exact Nat.le_refl _) (by exact Nat.le_of_ble_eq_true rfl) (by rfl) (by cbv) ?_
     intro js4;exact⟨(_,_,_),⟨⟨k4.1,k4.2.1,k4.2.2,f4,f5,k3⟩,k5⟩,js4,rfl⟩
set_option maxRecDepth 100000 in
set_option maxHeartbeats 4000000 in
theorem kkI (k:Nat→Int) (x l c p:Nat→Nat) (N C cap a m b:Nat) (hN:N≤100000) (hma:m=a+1) (hmb:m<b) (hb:b≤N) (hst:St k p) (hsr:Srt k p m b) :
  Con Try.prog 139 [.slice 0 .z 2 N cap,.int .i64 a,.int .i64 m,.int .i64 b,.fn 131 [.ptr 1 .z 1 0]] [kQ k x l c N C p,.one 202 [.fn 115 []]]
  (fun v H R=>v=.tup []∧R=[]∧∃q,(PermOn p q a b∧St k q∧Srt k q a b)∧H=[kQ k x l c N C q,.one 202 [.fn 115 []]]):=by
 have hcmp:=kdB;have hsw:=kdC k x l c;refine kj (kA 2 (by simp) (km (kg kr kn2 ?_)))
 intro vb vc vw vtoN _ vaddN _ _ _ _ _ _ _ _ _ _ _ _ _ _ _ hw qb qc qw qtoN _ qaddN _ _ _ _ _ _ _ _ _ _ _ _ _ _ _;have hm:=kr;generalize Try.prog=P at *;have hadd:∀(x y:Int) (i j:Nat),x=i→y=j→i+j<1000000→vb .add .i64 x y=((i+j:Nat):Int):=fun x y i j h1 h2 h=>by rw[qb,kh (by omega) (by omega)];omega
 have hsub:∀(x y:Int) (i j:Nat),x=i→y=j→j≤i→i<1000000→vb .sub .i64 x y=((i-j:Nat):Int):=fun x y i j h1 h2 h h'=>by rw[qb,ky (by omega) (by omega)];omega
 have hadd0:∀i,vaddN 0 i=i:=fun i=>by simp only[qaddN,Nat.zero_add]
 have hsg:∀a b,vc .lss (kcU a b) 0=decide (a<b):=fun a b=>by
  rw[qc];simp only[cV];rw[decide_eq_decide];exact ke5
 have hhalf:∀(x y:Int) (i j:Nat),x=i→y=j→i+j<1000000→vw .i64 (vb .shr .u64 (vw .u64 (vb .add .i64 x y)) 1)=(((i+j) / 2:Nat):Int):=fun x y i j h1 h2 h=>by
  rw[hadd x y i j h1 h2 h,qb,qw];exact ke6 (by omega)
 have hswp:=@kb3;have hswst:=@khH;generalize hSg:kcU=SG at *;generalize haI:(a:Int)=aI at *;generalize hbI:(b:Int)=bI at *;generalize hmI:(m:Int)=mI at *;have e1:vc .eql (vb .sub .i64 mI aI) 1=true:=by rw[hsub mI aI m a hmI.symm haI.symm (by omega) (by omega),qc,kF];omega
 have hrow:∀h,m≤h→h<b→(k (p h)<k (p a)→∀y,m≤y→y<h+1→k (p y)<k (p a))∧(¬k (p h)<k (p a)→∀y,h≤y→y<b→k (p a)≤k (p y)):=fun h h1 h2=>
  ⟨fun h3 y h4 h5=>by
   by_cases e:y=h
   ·subst e;exact h3
   ·have:=hsr y h h4 (by omega) h2;omega,fun h3 y h4 h5=>by
   by_cases e:y=h
   ·subst e;omega
   ·have:=hsr h y h1 (by omega) h5;omega⟩
 have hup:∀i,m≤i→i≤b→(∀y,m≤y→y<i→k (p y)<k (p a))→(∀y,i≤y→y<b→k (p a)≤k (p y))→Up k p a a i b:=fun i h1 h2 h3 h4=>
  ⟨fun x y g1 g2 g3 g4 g5=>hsr x y (by omega) g2 g3,fun x g1 g2=>by omega,fun y g1 g2=>h3 y (by omega) g2,fun y g1 g2 g3=>h4 y g1 g2⟩
 have hinv0:mI=m∧bI=b∧m≤m∧m≤b∧b≤b∧(∀y,m≤y→y<m→k (p y)<k (p a))∧(∀y,b≤y→y<b→k (p a)≤k (p y)):=⟨hmI.symm,hbI.symm,by omega,by omega,by omega,fun y h1 h2=>by omega,fun y h1 h2=>by omega⟩;have hta:vtoN aI=a:=by rw[qtoN,←haI];rfl
 have hra:InR aI N:=⟨by omega⟩;have hla:a<N:=by omega
 have hl0:0<N:=by omega
 have hlow:∀u:Int,u=vb .sub .i64 mI 1→True:=fun _ _=>trivial
 cbv;rw[e1];cbv;refine kl (α:=Int×Int×Nat×Nat) ([12]++[31,32,33,34,35,36,37,38,39,40,41,42,43,44,45,46,47,48,49,50,51,52,53]) []
  (fun(iI,jI,i,j)=>[(10,.int .i64 iI),(11,.int .i64 jI)])
  (fun(iI,jI,i,j)=>[])
  (fun(iI,jI,i,j)=>iI=i∧jI=j∧m≤i∧i≤j∧j≤b∧(∀y,m≤y→y<i→k (p y)<k (p a))∧(∀y,j≤y→y<b→k (p a)≤k (p y)))
  (fun(iI,jI,i,j)=>j-i) hw hm ?_ ?_
 ·refine Cv.fold ([12]++[31,32,33,34,35,36,37,38,39,40,41,42,43,44,45,46,47,48,49,50,51,52,53]) 2 [] (by exact Nat.le_refl _) (by exact Nat.le_of_ble_eq_true rfl) (by rfl) (by cbv) ?_
  intro js;exact⟨(_,_,_,_),hinv0,js,rfl⟩
 ·rintro⟨iI,jI,i,j⟩ js ⟨g1,g2,g3,g4,g5,g6,g7⟩;clear hinv0;cbv;split
  rotate_left
  ·rename_i hlt;have hij:i=j:=by rw[qc,ke] at hlt;simp only[nc] at *;omega
   have hU:=hup i g3 (by omega) g6 (fun y h1 h2=>g7 y (by omega) h2);clear g6 g7 hrow hup hlt;have hinv1:aI=a∧a≤a∧PermOn p p a b∧St k p∧Up k p a a i b:=⟨haI.symm,by omega,PermOn.refl _ _ _,hst,hU⟩;cbv;refine kl (α:=Int×Nat×(Nat→Nat)) [55,56,57,58,59,60,61,62,63,64,65,66,67,68,69,70,71,72,73,74,75,76] []
    (fun(cI,c',q)=>[(13,.int .i64 cI)])
    (fun(cI,c',q)=>[(0,kQ k x l c N C q)])
    (fun(cI,c',q)=>cI=c'∧a≤c'∧PermOn p q a b∧St k q∧Up k q a c' i b)
    (fun(cI,c',q)=>b-c') hw hm ?_ ?_
   ·refine Cv.fold [55,56,57,58,59,60,61,62,63,64,65,66,67,68,69,70,71,72,73,74,75,76] 2 [] (by exact Nat.le_refl _) (by exact Nat.le_of_ble_eq_true rfl) (by rfl) (by cbv) ?_
    intro js;exact⟨(_,_,_),hinv1,js,rfl⟩
   ·rintro⟨cI,c',q⟩ js2 ⟨f1,f2,f3,f4,f5⟩;clear hinv1 hU;have hs1:vb .sub .i64 iI 1=((i-1:Nat):Int):=hsub iI 1 i 1 g1 rfl (by omega) (by omega);have hcond:vc .lss cI (vb .sub .i64 iI 1)=decide (c'+1<i):=by
     rw[hs1,qc];simp only[cV];rw[decide_eq_decide];omega
    by_cases hc:c'+1<i
    ·have hc2:vc .lss cI (vb .sub .i64 iI 1)=true:=by rw[hcond];simpa using hc
     have hk:k (q (c'+1))<k (q c'):=f5.mid (c'+1) (by omega) hc;have hpm:PermOn p (swp q c' (c'+1)) a b:=f3.trans (hswp ⟨by omega,by omega⟩ ⟨by omega,by omega⟩);have hss:St k (swp q c' (c'+1)):=hswst f4 (by omega);have hup2:Up k (swp q c' (c'+1)) a (c'+1) i b:=f5.next f2 hc (by omega);obtain⟨c1,hc1⟩:∃c1,c1=c'+1:=⟨_,rfl⟩;have hu0:∀u:Int,u=vb .add .i64 cI 1→u=((c1:Nat):Int)∧vtoN u=c1∧InR u N:=fun u hu=>by
      have e:u=((c1:Nat):Int):=by rw[hu,hadd cI 1 c' 1 f1 rfl (by omega),hc1]
      exact⟨e,by rw[qtoN,e];rfl,⟨by omega⟩⟩
     have htc:vtoN cI=c':=by rw[qtoN,f1];rfl
     have hrc:InR cI N:=⟨by omega⟩;have hlc:c'<N:=by omega
     have hlc1:c1<N:=by omega
     have hfin:∀u:Int,u=((c1:Nat):Int)→(u=c1∧a≤c1∧PermOn p (swp q c' c1) a b∧St k (swp q c' c1)∧Up k (swp q c' c1) a c1 i b)∧b-c1<b-c':=fun u hu=>⟨⟨hu,by omega,by rw[hc1];exact hpm,by rw[hc1];exact hss,by rw[hc1];exact hup2⟩,by omega⟩
     clear f3 f4 f5 hpm hss hup2 hk hcond hs1 hst hsr;generalize @PermOn=PO at *;generalize @St=ST at *;generalize @Up=UP at *;generalize hSW:@swp=SW at *;cbv;rw[hc2];cbv;obtain⟨u,hu⟩:∃u,u=vb .add .i64 cI 1:=⟨_,rfl⟩;obtain⟨hu',htu,hru⟩:=hu0 u hu;rw[←hu,htc,htu,hadd0,hadd0];cbv;repeat (refine And.intro (by first|exact hru|exact hrc|exact⟨hlc⟩|exact⟨hlc1⟩|exact⟨hl0⟩) ?_)
     rw[hsw q c' c1];refine Cv.fold [55,56,57,58,59,60,61,62,63,64,65,66,67,68,69,70,71,72,73,74,75,76] 2 [] (by exact Nat.le_refl _) (by exact Nat.le_of_ble_eq_true rfl) (by rfl) (by cbv) ?_
     intro js4;exact⟨(_,c1,_),hfin u hu',js4,rfl⟩
    ·have hc2:vc .lss cI (vb .sub .i64 iI 1)=false:=by rw[hcond];simpa using hc
     have hfin:PermOn p q a b∧St k q∧Srt k q a b:=⟨f3,f4,f5.done (by omega)⟩;clear f3 f4 f5 hcond hs1 hst hsr;generalize @PermOn=PO at *;generalize @St=ST at *;generalize @Srt=SR at *;cbv;rw[hc2];cbv;exact⟨q,hfin,rfl⟩
  ·rename_i hlt;have hij:i<j:=by rw[qc,kf] at hlt;simp only[nc] at *;omega
   obtain⟨h,hh⟩:∃h,h=(i+j) / 2:=⟨_,rfl⟩;have h0:i≤h∧h<j:=by omega
   obtain⟨r1,r2⟩:=hrow h (by omega) (by omega);obtain⟨h1,hh1⟩:∃h1,h1=h+1:=⟨_,rfl⟩;have hu0:∀u:Int,u=vw .i64 (vb .shr .u64 (vw .u64 (vb .add .i64 iI jI)) 1)→u=(h:Int)∧vtoN u=h∧InR u N:=fun u hu=>by
    have e:u=(h:Int):=by rw[hu,hhalf iI jI i j g1 g2 (by omega),hh]
    exact⟨e,by rw[qtoN,e];rfl,⟨by omega⟩⟩
   have hlh:h<N:=by omega
   have hA:k (p h)<k (p a)→∀u v:Int,u=(h:Int)→v=vb .add .i64 u 1→(v=h1∧jI=j∧m≤h1∧h1≤j∧j≤b∧(∀y,m≤y→y<h1→k (p y)<k (p a))∧(∀y,j≤y→y<b→k (p a)≤k (p y)))∧j-h1<j-i:=fun hk u v hu hv=>
    ⟨⟨by rw[hv,hadd u 1 h 1 hu rfl (by omega),hh1],g2,by omega,by omega,g5,by rw[hh1];exact r1 hk,g7⟩,by omega⟩
   have hB:¬k (p h)<k (p a)→∀u:Int,u=(h:Int)→(iI=i∧u=h∧m≤i∧i≤h∧h≤b∧(∀y,m≤y→y<i→k (p y)<k (p a))∧(∀y,h≤y→y<b→k (p a)≤k (p y)))∧h-i<j-i:=fun hk u hu=>
    ⟨⟨g1,hu,g3,by omega,by omega,g6,r2 hk⟩,by omega⟩
   clear r1 r2 hrow hup g6 g7 hst hsr hlt;replace hA:=fun(_:Unit)=>hA
   replace hB:=fun(_:Unit)=>hB
   cbv;obtain⟨u,hu⟩:∃u,u=vw .i64 (vb .shr .u64 (vw .u64 (vb .add .i64 iI jI)) 1):=⟨_,rfl⟩;obtain⟨hu',htu,hru⟩:=hu0 u hu;rw[←hu,htu,hta,hadd0,hadd0];cbv;repeat (refine And.intro (by first|exact hru|exact hra|exact⟨hla⟩|exact⟨hlh⟩|exact⟨hl0⟩) ?_)
   refine ka (ρ:=[(1,.z)]) (hcmp _ _ _ _ _ _ _ _) ⟨by rfl,by rfl,by rfl,by cbv;exact⟨fun _=>rfl,trivial⟩⟩ ?_
   rintro v H R js3 ⟨rfl,rfl,rfl⟩;cbv;(repeat refine And.intro (fun _=>rfl) ?_);rw[hsg];by_cases hk:k (p h)<k (p a)
   ·rw[decide_eq_true hk];cbv;obtain⟨v,hv⟩:∃v,v=vb .add .i64 u 1:=⟨_,rfl⟩;rw[←hv];have hfin:=hA () hk u v hu' hv;refine Cv.fold ([12]++[31,32,33,34,35,36,37,38,39,40,41,42,43,44,45,46,47,48,49,50,51,52,53]) 2 [] (by exact Nat.le_refl _) (by exact Nat.le_of_ble_eq_true rfl) (by rfl) (by cbv) ?_
    intro js4;exact⟨(_,_,h1,_),hfin,js4,rfl⟩
   ·rw[decide_eq_false hk];cbv;have hfin:=hB () hk u hu';refine Cv.fold ([12]++[31,32,33,34,35,36,37,38,39,40,41,42,43,44,45,46,47,48,49,50,51,52,53]) 2 [] (by exact Nat.le_refl _) (by exact Nat.le_of_ble_eq_true rfl) (by rfl) (by cbv) ?_
    intro js4;exact⟨(_,_,_,h),hfin,js4,rfl⟩
set_option maxRecDepth 100000 in
set_option maxHeartbeats 4000000 in
theorem kkJ (k:Nat→Int) (x l c p:Nat→Nat) (N C cap a m b:Nat) (hN:N≤100000) (hma:a+1<m) (hmb:b=m+1) (hb:b≤N) (hst:St k p) (hsr:Srt k p a m) :
  Con Try.prog 139 [.slice 0 .z 2 N cap,.int .i64 a,.int .i64 m,.int .i64 b,.fn 131 [.ptr 1 .z 1 0]] [kQ k x l c N C p,.one 202 [.fn 115 []]]
  (fun v H R=>v=.tup []∧R=[]∧∃q,(PermOn p q a b∧St k q∧Srt k q a b)∧H=[kQ k x l c N C q,.one 202 [.fn 115 []]]):=by
 have hcmp:=kdB;have hsw:=kdC k x l c;refine kj (kA 2 (by simp) (km (kg kr kn2 ?_)))
 intro vb vc vw vtoN _ vaddN _ _ _ _ _ _ _ _ _ _ _ _ _ vnotB _ hw qb qc qw qtoN _ qaddN _ _ _ _ _ _ _ _ _ _ _ _ _ qnotB _;have hm:=kr;generalize Try.prog=P at *;have hadd:∀(x y:Int) (i j:Nat),x=i→y=j→i+j<1000000→vb .add .i64 x y=((i+j:Nat):Int):=fun x y i j h1 h2 h=>by rw[qb,kh (by omega) (by omega)];omega
 have hsub:∀(x y:Int) (i j:Nat),x=i→y=j→j≤i→i<1000000→vb .sub .i64 x y=((i-j:Nat):Int):=fun x y i j h1 h2 h h'=>by rw[qb,ky (by omega) (by omega)];omega
 have hadd0:∀i,vaddN 0 i=i:=fun i=>by simp only[qaddN,Nat.zero_add]
 have hsg:∀a b,vc .lss (kcU a b) 0=decide (a<b):=fun a b=>by
  rw[qc];simp only[cV];rw[decide_eq_decide];exact ke5
 have hhalf:∀(x y:Int) (i j:Nat),x=i→y=j→i+j<1000000→vw .i64 (vb .shr .u64 (vw .u64 (vb .add .i64 x y)) 1)=(((i+j) / 2:Nat):Int):=fun x y i j h1 h2 h=>by
  rw[hadd x y i j h1 h2 h,qb,qw];exact ke6 (by omega)
 have hswp:=@kb3;have hswst:=@khH;generalize hSg:kcU=SG at *;generalize haI:(a:Int)=aI at *;generalize hbI:(b:Int)=bI at *;generalize hmI:(m:Int)=mI at *;have e1:vc .eql (vb .sub .i64 mI aI) 1=false:=by rw[hsub mI aI m a hmI.symm haI.symm (by omega) (by omega),qc,kx];omega
 have e2:vc .eql (vb .sub .i64 bI mI) 1=true:=by rw[hsub bI mI b m hbI.symm hmI.symm (by omega) (by omega),qc,kF];omega
 have hrow:∀h,a≤h→h<m→(¬k (p m)<k (p h)→∀y,a≤y→y<h+1→k (p y)≤k (p m))∧(k (p m)<k (p h)→∀y,h≤y→y<m→k (p m)<k (p y)):=fun h h1 h2=>
  ⟨fun h3 y h4 h5=>by
   by_cases e:y=h
   ·subst e;omega
   ·have:=hsr y h h4 (by omega) h2;omega,fun h3 y h4 h5=>by
   by_cases e:y=h
   ·subst e;omega
   ·have:=hsr h y h1 (by omega) h5;omega⟩
 have hdn:∀i,a≤i→i≤m→(∀y,a≤y→y<i→k (p y)≤k (p m))→(∀y,i≤y→y<m→k (p m)<k (p y))→Dn k p a i m b:=fun i h1 h2 h3 h4=>
  ⟨fun x y g1 g2 g3 g4 g5=>hsr x y g1 g2 (by omega),fun x g1 g2=>by omega,fun y g1 g2=>h4 y (by omega) g2,fun y g1 g2 g3=>h3 y (by omega) g2⟩
 have hinv0:aI=a∧mI=m∧a≤a∧a≤m∧m≤m∧(∀y,a≤y→y<a→k (p y)≤k (p m))∧(∀y,m≤y→y<m→k (p m)<k (p y)):=⟨haI.symm,hmI.symm,by omega,by omega,by omega,fun y h1 h2=>by omega,fun y h1 h2=>by omega⟩;have htm:vtoN mI=m:=by rw[qtoN,←hmI];rfl
 have hrm:InR mI N:=⟨by omega⟩;have hlm:m<N:=by omega
 have hl0:0<N:=by omega
 cbv;rw[e1];cbv;rw[e2];cbv;refine kl (α:=Int×Int×Nat×Nat) ([16]++[83,84,85,86,87,88,89,90,91,92,93,94,95,96,97,98,99,100,101,102,103,104,105,106]) []
  (fun(iI,jI,i,j)=>[(14,.int .i64 iI),(15,.int .i64 jI)])
  (fun(iI,jI,i,j)=>[])
  (fun(iI,jI,i,j)=>iI=i∧jI=j∧a≤i∧i≤j∧j≤m∧(∀y,a≤y→y<i→k (p y)≤k (p m))∧(∀y,j≤y→y<m→k (p m)<k (p y)))
  (fun(iI,jI,i,j)=>j-i) hw hm ?_ ?_
 ·refine Cv.fold ([16]++[83,84,85,86,87,88,89,90,91,92,93,94,95,96,97,98,99,100,101,102,103,104,105,106]) 2 [] (by exact Nat.le_refl _) (by exact Nat.le_of_ble_eq_true rfl) (by rfl) (by cbv) ?_
  intro js;exact⟨(_,_,_,_),hinv0,js,rfl⟩
 ·rintro⟨iI,jI,i,j⟩ js ⟨g1,g2,g3,g4,g5,g6,g7⟩;clear hinv0;cbv;split
  rotate_left
  ·rename_i hlt;have hij:i=j:=by rw[qc,ke] at hlt;simp only[nc] at *;omega
   have hU:=hdn i g3 (by omega) g6 (fun y h1 h2=>g7 y (by omega) h2);clear g6 g7 hrow hdn hlt;have hinv1:mI=m∧i≤m∧m≤m∧PermOn p p a b∧St k p∧Dn k p a i m b:=⟨hmI.symm,by omega,by omega,PermOn.refl _ _ _,hst,hU⟩;cbv;refine kl (α:=Int×Nat×(Nat→Nat)) [108,109,110,111,112,113,114,115,116,117,118,119,120,121,122,123,124,125,126,127,128] []
    (fun(cI,c',q)=>[(17,.int .i64 cI)])
    (fun(cI,c',q)=>[(0,kQ k x l c N C q)])
    (fun(cI,c',q)=>cI=c'∧i≤c'∧c'≤m∧PermOn p q a b∧St k q∧Dn k q a i c' b)
    (fun(cI,c',q)=>c') hw hm ?_ ?_
   ·refine Cv.fold [108,109,110,111,112,113,114,115,116,117,118,119,120,121,122,123,124,125,126,127,128] 2 [] (by exact Nat.le_refl _) (by exact Nat.le_of_ble_eq_true rfl) (by rfl) (by cbv) ?_
    intro js;exact⟨(_,_,_),hinv1,js,rfl⟩
   ·rintro⟨cI,c',q⟩ js2 ⟨f1,f2,f6,f3,f4,f5⟩;clear hinv1 hU;have hcond:vc .gtr cI iI=decide (i<c'):=by
     rw[qc];simp only[cV];rw[decide_eq_decide,f1,g1];simp only[nc];omega
    by_cases hc:i<c'
    ·have hc2:vc .gtr cI iI=true:=by rw[hcond];simpa using hc
     obtain⟨d,hd⟩:∃d,c'=d+1:=⟨c'-1,by omega⟩;subst hd;have hk:k (q (d+1))<k (q d):=f5.mid d (by omega) (by omega);have hpm:PermOn p (swp q (d+1) d) a b:=f3.trans (hswp ⟨by omega,by omega⟩ ⟨by omega,by omega⟩);have hss:St k (swp q (d+1) d):=by rw[kgf];exact hswst f4 (by omega)
     have hdn2:Dn k (swp q (d+1) d) a i d b:=by rw[kgf];exact f5.next (by omega) g3 (by omega)
     obtain⟨c1,hc1⟩:∃c1,c1=d+1:=⟨_,rfl⟩;have hu0:∀u:Int,u=vb .sub .i64 cI 1→u=((d:Nat):Int)∧vtoN u=d∧InR u N:=fun u hu=>by
      have e:u=((d:Nat):Int):=by rw[hu,hsub cI 1 (d+1) 1 f1 rfl (by omega) (by omega)];rfl
      exact⟨e,by rw[qtoN,e];rfl,⟨by omega⟩⟩
     have htc:vtoN cI=c1:=by rw[qtoN,f1,hc1];rfl
     have hrc:InR cI N:=⟨by omega⟩;have hlc:d<N:=by omega
     have hlc1:c1<N:=by omega
     have hfin:∀u:Int,u=((d:Nat):Int)→(u=d∧i≤d∧d≤m∧PermOn p (swp q c1 d) a b∧St k (swp q c1 d)∧Dn k (swp q c1 d) a i d b)∧d<d+1:=fun u hu=>⟨⟨hu,by omega,by omega,by rw[hc1];exact hpm,by rw[hc1];exact hss,by rw[hc1];exact hdn2⟩,by omega⟩
     clear f3 f4 f5 hpm hss hdn2 hk hcond hst hsr;generalize @PermOn=PO at *;generalize @St=ST at *;generalize @Dn=UP at *;generalize hSW:@swp=SW at *;cbv;rw[hc2];cbv;obtain⟨u,hu⟩:∃u,u=vb .sub .i64 cI 1:=⟨_,rfl⟩;obtain⟨hu',htu,hru⟩:=hu0 u hu;rw[←hu,htc,htu,hadd0,hadd0];cbv;repeat (refine And.intro (by first|exact hru|exact hrc|exact⟨hlc⟩|exact⟨hlc1⟩|exact⟨hl0⟩) ?_)
     rw[hsw q c1 d];refine Cv.fold [108,109,110,111,112,113,114,115,116,117,118,119,120,121,122,123,124,125,126,127,128] 2 [] (by exact Nat.le_refl _) (by exact Nat.le_of_ble_eq_true rfl) (by rfl) (by cbv) ?_
     intro js4;exact⟨(_,d,_),hfin u hu',js4,rfl⟩
    ·have hc2:vc .gtr cI iI=false:=by rw[hcond];simpa using hc
     have hfin:PermOn p q a b∧St k q∧Srt k q a b:=⟨f3,f4,f5.done (by omega)⟩;clear f3 f4 f5 hcond hst hsr;generalize @PermOn=PO at *;generalize @St=ST at *;generalize @Srt=SR at *;cbv;rw[hc2];cbv;exact⟨q,hfin,rfl⟩
  ·rename_i hlt;have hij:i<j:=by rw[qc,kf] at hlt;simp only[nc] at *;omega
   obtain⟨h,hh⟩:∃h,h=(i+j) / 2:=⟨_,rfl⟩;have h0:i≤h∧h<j:=by omega
   obtain⟨r1,r2⟩:=hrow h (by omega) (by omega);obtain⟨h1,hh1⟩:∃h1,h1=h+1:=⟨_,rfl⟩;have hu0:∀u:Int,u=vw .i64 (vb .shr .u64 (vw .u64 (vb .add .i64 iI jI)) 1)→u=(h:Int)∧vtoN u=h∧InR u N:=fun u hu=>by
    have e:u=(h:Int):=by rw[hu,hhalf iI jI i j g1 g2 (by omega),hh]
    exact⟨e,by rw[qtoN,e];rfl,⟨by omega⟩⟩
   have hlh:h<N:=by omega
   have hA:¬k (p m)<k (p h)→∀u v:Int,u=(h:Int)→v=vb .add .i64 u 1→(v=h1∧jI=j∧a≤h1∧h1≤j∧j≤m∧(∀y,a≤y→y<h1→k (p y)≤k (p m))∧(∀y,j≤y→y<m→k (p m)<k (p y)))∧j-h1<j-i:=fun hk u v hu hv=>
    ⟨⟨by rw[hv,hadd u 1 h 1 hu rfl (by omega),hh1],g2,by omega,by omega,g5,by rw[hh1];exact r1 hk,g7⟩,by omega⟩
   have hB:k (p m)<k (p h)→∀u:Int,u=(h:Int)→(iI=i∧u=h∧a≤i∧i≤h∧h≤m∧(∀y,a≤y→y<i→k (p y)≤k (p m))∧(∀y,h≤y→y<m→k (p m)<k (p y)))∧h-i<j-i:=fun hk u hu=>
    ⟨⟨g1,hu,g3,by omega,by omega,g6,r2 hk⟩,by omega⟩
   have hnt:vnotB true=false:=by simp only[qnotB];rfl
   have hnf:vnotB false=true:=by simp only[qnotB];rfl
   clear r1 r2 hrow hdn g6 g7 hst hsr hlt;replace hA:=fun(_:Unit)=>hA
   replace hB:=fun(_:Unit)=>hB
   cbv;obtain⟨u,hu⟩:∃u,u=vw .i64 (vb .shr .u64 (vw .u64 (vb .add .i64 iI jI)) 1):=⟨_,rfl⟩;obtain⟨hu',htu,hru⟩:=hu0 u hu;rw[←hu,htu,htm,hadd0,hadd0];cbv;repeat (refine And.intro (by first|exact hru|exact hrm|exact⟨hlm⟩|exact⟨hlh⟩|exact⟨hl0⟩) ?_)
   refine ka (ρ:=[(1,.z)]) (hcmp _ _ _ _ _ _ _ _) ⟨by rfl,by rfl,by rfl,by cbv;exact⟨fun _=>rfl,trivial⟩⟩ ?_
   rintro v H R js3 ⟨rfl,rfl,rfl⟩;cbv;(repeat refine And.intro (fun _=>rfl) ?_);rw[hsg];by_cases hk:k (p m)<k (p h)
   ·rw[decide_eq_true hk];cbv;rw[hnt];cbv;have hfin:=hB () hk u hu';refine Cv.fold ([16]++[83,84,85,86,87,88,89,90,91,92,93,94,95,96,97,98,99,100,101,102,103,104,105,106]) 2 [] (by exact Nat.le_refl _) (by exact Nat.le_of_ble_eq_true rfl) (by rfl) (by cbv) ?_
    intro js4;exact⟨(_,_,_,h),hfin,js4,rfl⟩
   ·rw[decide_eq_false hk];cbv;rw[hnf];cbv;obtain⟨v,hv⟩:∃v,v=vb .add .i64 u 1:=⟨_,rfl⟩;rw[←hv];have hfin:=hA () hk u v hu' hv;refine Cv.fold ([16]++[83,84,85,86,87,88,89,90,91,92,93,94,95,96,97,98,99,100,101,102,103,104,105,106]) 2 [] (by exact Nat.le_refl _) (by exact Nat.le_of_ble_eq_true rfl) (by rfl) (by cbv) ?_
    intro js4;exact⟨(_,_,h1,_),hfin,js4,rfl⟩
end Go.Proofs.Ytlclleihoampdaa
namespace Go.Proofs.Ytlclleihoampdaa
theorem kqT {k:Nat→Int} {p:Nat→Nat} {a m b n lo r0 c:Nat} (hl:Srt k p a m) (hr:Srt k p m b) (h1:a≤lo) (h2:r0≤m) (h3:∀x,lo≤x→x<r0→m≤n-1-x∧n-1-x<b∧x<n) (hc:lo≤c) (hc2:c<r0)
  (hk:¬k (p (n-1-c))<k (p c)):∀x,lo≤x→x<c+1→k (p x)≤k (p (n-1-x)):=by
 intro x hx hx2;by_cases e:x=c
 ·subst e;omega
 ·have e1:=hl x c (by omega) (by omega) (by omega);have q1:=h3 c hc hc2;have q2:=h3 x hx (by omega);have e2:=hr (n-1-c) (n-1-x) (by omega) (by omega) (by omega);omega
theorem kqU {k:Nat→Int} {p:Nat→Nat} {a m b n lo r0 c:Nat} (hl:Srt k p a m) (hr:Srt k p m b) (h1:a≤lo) (h2:r0≤m) (h3:∀x,lo≤x→x<r0→m≤n-1-x∧n-1-x<b∧x<n) (hc:lo≤c) (hc2:c<r0)
  (hk:k (p (n-1-c))<k (p c)):∀x,c≤x→x<r0→k (p (n-1-x))<k (p x):=by
 intro x hx hx2;by_cases e:x=c
 ·subst e;omega
 ·have e1:=hl c x (by omega) (by omega) (by omega);have q1:=h3 c hc hc2;have q2:=h3 x (by omega) (by omega);have e2:=hr (n-1-x) (n-1-c) (by omega) (by omega) (by omega);omega
def LR (a m b mid n lo r0:Nat):Prop:=(mid<m∧lo=n-b∧r0=mid)∨(m≤mid∧lo=a∧r0=m)
theorem LR.in {a m b mid n lo r0:Nat} (h:LR a m b mid n lo r0) (h1:a<m) (h2:m<b) (hmid:mid=(a+b) / 2) (hn:n=mid+m):a≤lo∧r0≤m∧lo≤r0∧∀x,lo≤x→x<r0→m≤n-1-x∧n-1-x<b∧x<n:=by
 rcases h with⟨h3,h4,h5⟩|⟨h3,h4,h5⟩
 ·exact⟨by omega,by omega,by omega,fun x e1 e2=>by omega⟩
 ·exact⟨by omega,by omega,by omega,fun x e1 e2=>by omega⟩
theorem kqV {k:Nat→Int} {p:Nat→Nat} {a m b mid n lo r0 s:Nat} (h:LR a m b mid n lo r0) (h1:a<m) (h2:m<b) (hmid:mid=(a+b) / 2) (hn:n=mid+m) (hs:lo≤s) (hs2:s≤r0)
  (hlo:∀x,lo≤x→x<s→k (p x)≤k (p (n-1-x))) (hhi:∀x,s≤x→x<r0→k (p (n-1-x))<k (p x)) (hl:Srt k p a m) (hr:Srt k p m b):CutAt k p a s m (n-s) b:=by
 have hL:=h;rcases h with⟨h3,h4,h5⟩|⟨h3,h4,h5⟩
 all_goals refine⟨by omega,by omega,by omega,by omega,fun x y e1 e2 e3 e4=>?_,fun x y e1 e2 e3 e4=>?_⟩
 ·by_cases c:s=lo
  ·omega
  ·have f1:=hlo (s-1) (by omega) (by omega);have f2:k (p x)≤k (p (s-1)):=by
    by_cases c2:x=s-1
    ·subst c2;exact Int.le_refl _
    ·exact hl x (s-1) e1 (by omega) (by omega)
   have f3:k (p (n-1-(s-1)))≤k (p y):=by
    by_cases c2:y=n-1-(s-1)
    ·subst c2;exact Int.le_refl _
    ·exact hr _ y (by omega) (by omega) e4
   omega
 ·by_cases c:s=r0
  ·omega
  ·have f1:=hhi s (Nat.le_refl _) (by omega);have f2:k (p s)≤k (p x):=by
    by_cases c2:x=s
    ·subst c2;exact Int.le_refl _
    ·exact hl s x (by omega) (by omega) e2
   have f3:k (p y)≤k (p (n-1-s)):=by
    by_cases c2:y=n-1-s
    ·subst c2;exact Int.le_refl _
    ·exact hr y _ e3 (by omega) (by omega)
   omega
 ·by_cases c:s=a
  ·omega
  ·have f1:=hlo (s-1) (by omega) (by omega);have f2:k (p x)≤k (p (s-1)):=by
    by_cases c2:x=s-1
    ·subst c2;exact Int.le_refl _
    ·exact hl x (s-1) e1 (by omega) (by omega)
   have f3:k (p (n-1-(s-1)))≤k (p y):=by
    by_cases c2:y=n-1-(s-1)
    ·subst c2;exact Int.le_refl _
    ·exact hr _ y (by omega) (by omega) e4
   omega
 ·by_cases c:s=m
  ·omega
  ·have f1:=hhi s (Nat.le_refl _) (by omega);have f2:k (p s)≤k (p x):=by
    by_cases c2:x=s
    ·subst c2;exact Int.le_refl _
    ·exact hl s x (by omega) (by omega) e2
   have f3:k (p y)≤k (p (n-1-s)):=by
    by_cases c2:y=n-1-s
    ·subst c2;exact Int.le_refl _
    ·exact hr y _ e3 (by omega) (by omega)
   omega
theorem kpN {p:Nat→Nat} {s m e:Nat} (h1:s≤m) (h2:m≤e) (h:s=m∨e=m):q8 p s m e=p:=by
 funext x
 rw[jn];rcases h with h|h
 all_goals repeat' split
 all_goals first|omega|(congr 1;omega)|rfl
theorem km7 {k:Nat→Int} {p q1 q2 q3:Nat→Nat} {a mid b:Nat} (h1:PermOn p q1 a b) (h2:PermOn q1 q2 a mid) (h3:PermOn q2 q3 mid b) (s3:St k q3)
  (X:∀x y,a≤x→x<mid→mid≤y→y<b→k (q1 x)≤k (q1 y)) (r2:Srt k q2 a mid) (r3:Srt k q3 mid b) (ha:a≤mid) (hb:mid≤b):PermOn p q3 a b∧St k q3∧Srt k q3 a b:=by
 refine⟨(h1.trans (h2.wide (Nat.le_refl _) hb)).trans (h3.wide ha (Nat.le_refl _)),s3,?_⟩
 refine Srt.join (q:=q1) X (fun x y e1 e2 e3=>?_) r3 (fun x e1 e2=>?_) (fun y e1 e2=>?_)
 ·rw[h3.out x (by omega),h3.out y (by omega)];exact r2 x y e1 e2 e3
 ·obtain⟨x',f1,f2,f3⟩:=h2.sub x e1 e2;exact⟨x',f1,f2,by rw[h3.out x (by omega),f3]⟩
 ·obtain⟨y',f1,f2,f3⟩:=h3.sub y e1 e2;exact⟨y',f1,f2,by rw[f3,h2.out y' (by omega)]⟩
theorem Srt.keep {k:Nat→Int} {q1 q2:Nat→Nat} {a mid x y:Nat} (h2:PermOn q1 q2 a mid) (h:Srt k q1 x y) (hx:mid≤x):Srt k q2 x y:=fun i j e1 e2 e3=>by
 rw[h2.out i (by omega),h2.out j (by omega)];exact h i j e1 e2 e3
theorem kqW {a m b mid n lo r0 i:Nat} (h:LR a m b mid n lo r0) (h1:a+1<m) (h2:m+1<b) (hmid:mid=(a+b) / 2) (hn:n=mid+m) (h3:lo≤i) (h4:i≤r0) :
  (a≤i∧i≤m∧m≤n-i∧n-i≤b)∧i+(n-i-m)=mid∧(i≤mid∧mid≤n-i∧a<mid∧mid<b)∧i≤n∧(¬i<m→¬mid<n-i)∧(i<m→¬m<n-i→¬i<mid∧a<i∧n-i<b)∧mid-a<b-a∧b-mid<b-a:=by
 rcases h with⟨h5,h6,h7⟩|⟨h5,h6,h7⟩
 ·exact⟨by omega,by omega,by omega,by omega,fun g=>by omega,fun g1 g2=>by omega,by omega,by omega⟩
 ·exact⟨by omega,by omega,by omega,by omega,fun g=>by omega,fun g1 g2=>by omega,by omega,by omega⟩
theorem kqa {k:Nat→Int} {q:Nat→Nat} {a i mid:Nat} (h1:a≤i) (h2:i≤mid) (A:Srt k q a i) (B:Srt k q i mid) (h:¬(a<i∧i<mid)):Srt k q a mid:=by
 by_cases h3:i=a
 ·subst h3;exact B
 ·obtain rfl:i=mid:=by omega
  exact A
@[irreducible] def LoF (k:Nat→Int) (p:Nat→Nat) (n lo i:Nat):Prop:=∀x,lo≤x→x<i→k (p x)≤k (p (n-1-x))
@[irreducible] def HiF (k:Nat→Int) (p:Nat→Nat) (n j r0:Nat):Prop:=∀x,j≤x→x<r0→k (p (n-1-x))<k (p x)
theorem LoF.of {k:Nat→Int} {p:Nat→Nat} {n lo i:Nat} (h:∀x,lo≤x→x<i→k (p x)≤k (p (n-1-x))):LoF k p n lo i:=by unfold LoF;exact h
theorem HiF.of {k:Nat→Int} {p:Nat→Nat} {n j r0:Nat} (h:∀x,j≤x→x<r0→k (p (n-1-x))<k (p x)):HiF k p n j r0:=by unfold HiF;exact h
theorem LoF.out {k:Nat→Int} {p:Nat→Nat} {n lo i:Nat} (h:LoF k p n lo i):∀x,lo≤x→x<i→k (p x)≤k (p (n-1-x)):=by unfold LoF at h;exact h
theorem HiF.out {k:Nat→Int} {p:Nat→Nat} {n j r0:Nat} (h:HiF k p n j r0):∀x,j≤x→x<r0→k (p (n-1-x))<k (p x):=by unfold HiF at h;exact h
@[irreducible] def LRi (a m b mid n lo r0:Nat):Prop:=LR a m b mid n lo r0
theorem LRi.of {a m b mid n lo r0:Nat} (h:LR a m b mid n lo r0):LRi a m b mid n lo r0:=by unfold LRi;exact h
theorem LRi.out {a m b mid n lo r0:Nat} (h:LRi a m b mid n lo r0):LR a m b mid n lo r0:=by unfold LRi at h;exact h
end Go.Proofs.Ytlclleihoampdaa
namespace Go.Proofs.Ytlclleihoampdaa
open Go Go.Sx Go.Proofs
theorem ksL {A B C D E:Type} {Goal:Prop} (G Fc:A→B→C→D→E→Prop) (hm:(∀a b c d e,Fc a b c d e→G a b c d e)→Goal) (hk:∀a b c d e,Fc a b c d e→G a b c d e):Goal:=hm hk
structure MEx (P:Program) (k:Nat→Int) (x l c:Nat→Nat) (N C cap:Nat) (p:Nat→Nat) (a m mid b i e:Nat) (aI iI dI mI bI:Int) (Q1:Nat→Nat):Prop where
 rid:¬(i<m∧m<e)→Q1=p
 rot:∀eI:Int,eI=(e:Int)→i<m→m<e→Con P 140 [.slice 0 .z 2 N cap,.int .i64 iI,.int .i64 mI,.int .i64 eI,.fn 131 [.ptr 1 .z 1 0]] [kQ k x l c N C p,.one 202 [.fn 115 []]]
   (fun v H R=>v=.tup []∧R=[]∧H=[kQ k x l c N C Q1,.one 202 [.fn 115 []]])
 r1:a<i→i<mid→Con P 139 [.slice 0 .z 2 N cap,.int .i64 aI,.int .i64 iI,.int .i64 dI,.fn 131 [.ptr 1 .z 1 0]] [kQ k x l c N C Q1,.one 202 [.fn 115 []]]
   (fun v H R=>v=.tup []∧R=[]∧∃r,(PermOn Q1 r a mid∧St k r∧Srt k r a mid)∧H=[kQ k x l c N C r,.one 202 [.fn 115 []]])
 n1:¬(a<i∧i<mid)→PermOn Q1 Q1 a mid∧St k Q1∧Srt k Q1 a mid
 r2:∀(eI:Int),eI=(e:Int)→∀Q2,PermOn Q1 Q2 a mid→St k Q2→mid<e→e<b→Con P 139 [.slice 0 .z 2 N cap,.int .i64 dI,.int .i64 eI,.int .i64 bI,.fn 131 [.ptr 1 .z 1 0]] [kQ k x l c N C Q2,.one 202 [.fn 115 []]]
   (fun v H R=>v=.tup []∧R=[]∧∃r,(PermOn Q2 r mid b∧St k r∧Srt k r mid b)∧H=[kQ k x l c N C r,.one 202 [.fn 115 []]])
 n2:∀Q2,PermOn Q1 Q2 a mid→St k Q2→¬(mid<e∧e<b)→PermOn Q2 Q2 mid b∧St k Q2∧Srt k Q2 mid b
 fin:∀Q2 Q3,PermOn Q1 Q2 a mid→Srt k Q2 a mid→PermOn Q2 Q3 mid b→St k Q3→Srt k Q3 mid b→PermOn p Q3 a b∧St k Q3∧Srt k Q3 a b
 x1:¬i<m→¬mid<e
 x2:i<m→¬m<e→¬i<mid∧a<i∧e<b
theorem mex {P:Program} {k:Nat→Int} {x l c:Nat→Nat} {N C cap:Nat} {p:Nat→Nat} {a m mid b i n lo r0:Nat} {aI iI dI mI bI:Int} (hb:b≤N) (hma:a+1<m) (hmb:m+1<b) (hst:St k p) (hsl:Srt k p a m) (hsr:Srt k p m b)
  (ih:∀(q:Nat→Nat) (aI mI bI:Int) (a' m' b':Nat),b'-a'<b-a→a'<m'→m'<b'→b'≤N→St k q→Srt k q a' m'→Srt k q m' b'→aI=a'→mI=m'→bI=b' →
   Con P 139 [.slice 0 .z 2 N cap,.int .i64 aI,.int .i64 mI,.int .i64 bI,.fn 131 [.ptr 1 .z 1 0]] [kQ k x l c N C q,.one 202 [.fn 115 []]]
   (fun v H R=>v=.tup []∧R=[]∧∃r,(PermOn q r a' b'∧St k r∧Srt k r a' b')∧H=[kQ k x l c N C r,.one 202 [.fn 115 []]]))
  (hrotc:∀(sI mI eI:Int) (s m e:Nat),s<m→m<e→e≤N→sI=s→mI=m→eI=e→Con P 140 [.slice 0 .z 2 N cap,.int .i64 sI,.int .i64 mI,.int .i64 eI,.fn 131 [.ptr 1 .z 1 0]] [kQ k x l c N C p,.one 202 [.fn 115 []]]
   (fun v H R=>v=.tup []∧R=[]∧H=[kQ k x l c N C (q8 p s m e),.one 202 [.fn 115 []]]))
  (hmid:mid=(a+b) / 2) (hn:n=mid+m) (haI:aI=a) (hiI:iI=i) (hd:dI=mid) (hmI:mI=m) (hbI:bI=b) (hLR:LRi a m b mid n lo r0) (g3:lo≤i) (g4:i≤r0) (g6:LoF k p n lo i) (g7:HiF k p n i r0) :
  MEx P k x l c N C cap p a m mid b i (n-i) aI iI dI mI bI (q8 p i m (n-i))∧i≤n:=by
 obtain⟨⟨w1,w2,w3,w4⟩,hse,⟨m1,m2,m3,m4⟩,m5,hx1,hx2,s1,s2⟩:=kqW hLR.out hma hmb hmid hn g3 g4;have hcu:=kqV hLR.out (by omega) (by omega) hmid hn g3 g4 g6.out g7.out hsl hsr;obtain⟨P1,S1,A1,B1,C1,D1,X1⟩:=hcu.rot hsl hsr hst;refine⟨?_,m5⟩
 clear hLR hcu g6 g7 hsl hsr hst hmid hn;generalize n-i=e at *;rw[hse] at B1 C1 X1;have hmle:mid≤N:=by omega
 have hele:e≤N:=by omega
 refine⟨fun h=>kpN w2 w3 (by omega),fun eI h3 h1 h2=>hrotc iI mI eI i m e h1 h2 hele hiI hmI h3,fun h1 h2=>ih _ aI iI dI a i mid s1 h1 h2 hmle S1 A1 B1 haI hiI hd,
  fun h=>⟨PermOn.refl _ _ _,S1,kqa w1 m1 A1 B1 h⟩,fun eI h0 Q2 h1 h2 h3 h4=>ih Q2 dI eI bI mid e b s2 h3 h4 hb h2 (C1.keep h1 (Nat.le_refl _)) (D1.keep h1 m2) hd h0 hbI,
  fun Q2 h1 h2 h=>⟨PermOn.refl _ _ _,h2,kqa m2 w4 (C1.keep h1 (Nat.le_refl _)) (D1.keep h1 m2) h⟩,fun Q2 Q3 h1 h2 h3 h4 h5=>km7 P1 h1 h3 h4 X1 h2 h5 (Nat.le_of_lt m3) (Nat.le_of_lt m4),hx1,hx2⟩
structure MRd (k:Nat→Int) (p:Nat→Nat) (N n lo r0 i j h g:Nat) (iI jI:Int) (vb:BinOp→IntKind→Int→Int→Int) (vw:IntKind→Int→Int) (vtoN:Int→Nat) (pI:Int):Prop where
 u:∀u:Int,u=vw .i64 (vb .shr .u64 (vw .u64 (vb .add .i64 iI jI)) 1)→u=(h:Int)∧vtoN u=h∧InR u N
 v:∀u v:Int,u=(h:Int)→v=vb .sub .i64 pI u→vtoN v=g∧InR v N
 lh:h<N
 lg:g<N
 l0:0<N
 a:¬k (p g)<k (p h)→∀u v:Int,u=(h:Int)→v=vb .add .i64 u 1→∃h1:Nat,(v=h1∧jI=j∧lo≤h1∧h1≤j∧j≤r0∧LoF k p n lo h1∧HiF k p n j r0)∧j-h1<j-i
 b:k (p g)<k (p h)→∀u:Int,u=(h:Int)→(iI=i∧u=h∧lo≤i∧i≤h∧h≤r0∧LoF k p n lo i∧HiF k p n h r0)∧h-i<j-i
theorem mrd {k:Nat→Int} {p:Nat→Nat} {N a m mid b n lo r0 i j:Nat} {iI jI pI:Int} {vb:BinOp→IntKind→Int→Int→Int} {vw:IntKind→Int→Int} {vtoN:Int→Nat} (hN:N≤100000) (hb:b≤N) (h1:a+1<m) (h2:m+1<b) (hsl:Srt k p a m) (hsr:Srt k p m b)
  (qb:vb=bV) (qw:vw=fun k x=>k.wrap x) (qtoN:vtoN=fun n=>n.toNat) (hmid:mid=(a+b) / 2) (hn:n=mid+m) (hp:pI=((n-1:Nat):Int)) (hLR:LRi a m b mid n lo r0) (g1:iI=i) (g2:jI=j) (g3:lo≤i) (hij:i<j) (g5:j≤r0) (g6:LoF k p n lo i) (g7:HiF k p n j r0) :
  MRd k p N n lo r0 i j ((i+j) / 2) (n-1-(i+j) / 2) iI jI vb vw vtoN pI:=by
 obtain⟨l1,l2,l3,l4⟩:=hLR.out.in (by omega) (by omega) hmid hn;have hh0:i≤(i+j) / 2∧(i+j) / 2<j:=by omega
 have r1:=kqT (c:=(i+j) / 2) hsl hsr l1 l2 l4 (by omega) (by omega);have r2:=kqU (c:=(i+j) / 2) hsl hsr l1 l2 l4 (by omega) (by omega);obtain⟨l5,l6,l7⟩:=l4 ((i+j) / 2) (by omega) (by omega);have hhalf:vw .i64 (vb .shr .u64 (vw .u64 (vb .add .i64 iI jI)) 1)=(((i+j) / 2:Nat):Int):=by
  rw[g1,g2,qb,qw,kh (by omega) (by omega),show(i:Int)+(j:Int)=((i+j:Nat):Int) by omega];exact ke6 (by omega)
 generalize hh:(i+j) / 2=h at *;generalize hg:n-1-h=g at *;have hgN:g<N:=by omega
 have hnn:n-1<1000000∧h≤n-1∧g=n-1-h:=by omega
 clear hmid hn hLR l4 hsl hsr;refine⟨fun u hu=>?_,fun u v hu hv=>?_,by omega,hgN,by omega,fun hk u v hu hv=>⟨h+1,⟨?_,g2,by omega,by omega,g5,LoF.of (r1 hk),g7⟩,by omega⟩,fun hk u hu=>⟨⟨g1,hu,g3,by omega,by omega,g6,HiF.of (r2 hk)⟩,by omega⟩⟩
 ·have e:u=(h:Int):=by rw[hu,hhalf]
  exact⟨e,by rw[qtoN,e];rfl,⟨by omega⟩⟩
 ·have e:v=(g:Int):=by rw[hv,qb,hp,hu,ky (by omega) (by omega)];omega
  exact⟨by rw[qtoN,e];rfl,⟨by omega⟩⟩
 ·rw[hv,qb,hu,kh (by omega) (by omega)];omega
set_option maxRecDepth 100000 in
set_option maxHeartbeats 8000000 in
theorem kkK (k:Nat→Int) (x l c p:Nat→Nat) (N C cap a m b:Nat) (hN:N≤100000) (hma:a+1<m) (hmb:m+1<b) (hb:b≤N) (hst:St k p) (hsl:Srt k p a m) (hsr:Srt k p m b)
  (ih:∀(q:Nat→Nat) (aI mI bI:Int) (a' m' b':Nat),b'-a'<b-a→a'<m'→m'<b'→b'≤N→St k q→Srt k q a' m'→Srt k q m' b'→aI=a'→mI=m'→bI=b' →
   Con Try.prog 139 [.slice 0 .z 2 N cap,.int .i64 aI,.int .i64 mI,.int .i64 bI,.fn 131 [.ptr 1 .z 1 0]] [kQ k x l c N C q,.one 202 [.fn 115 []]]
   (fun v H R=>v=.tup []∧R=[]∧∃r,(PermOn q r a' b'∧St k r∧Srt k r a' b')∧H=[kQ k x l c N C r,.one 202 [.fn 115 []]])) :
  Con Try.prog 139 [.slice 0 .z 2 N cap,.int .i64 a,.int .i64 m,.int .i64 b,.fn 131 [.ptr 1 .z 1 0]] [kQ k x l c N C p,.one 202 [.fn 115 []]]
  (fun v H R=>v=.tup []∧R=[]∧∃q,(PermOn p q a b∧St k q∧Srt k q a b)∧H=[kQ k x l c N C q,.one 202 [.fn 115 []]]):=by
 have hcmp:=kdB;have hrotc:∀(sI mI eI:Int) (s m e:Nat),s<m→m<e→e≤N→sI=s→mI=m→eI=e→Con Try.prog 140 [.slice 0 .z 2 N cap,.int .i64 sI,.int .i64 mI,.int .i64 eI,.fn 131 [.ptr 1 .z 1 0]] [kQ k x l c N C p,.one 202 [.fn 115 []]]
   (fun v H R=>v=.tup []∧R=[]∧H=[kQ k x l c N C (q8 p s m e),.one 202 [.fn 115 []]]):=fun sI mI eI s m e g1 g2 g3 e1 e2 e3=>by
  subst e1 e2 e3;exact kpL k x l c p N C cap s m e hN g1 g2 g3
 refine kj (kA 2 (by simp) (km (kg kr kn2 ?_)))
 intro vb vc vw _ _ vaddN _ _ _ _ _ _ _ _ _ _ _ _ _ vnotB _ hw qb qc qw qtoN _ qaddN _ _ _ _ _ _ _ _ _ _ _ _ _ qnotB _;have hm:=kr;generalize Try.prog=P at *;have hadd:∀(x y:Int) (i j:Nat),x=i→y=j→i+j<1000000→vb .add .i64 x y=((i+j:Nat):Int):=fun x y i j h1 h2 h=>by rw[qb,kh (by omega) (by omega)];omega
 have hsub:∀(x y:Int) (i j:Nat),x=i→y=j→j≤i→i<1000000→vb .sub .i64 x y=((i-j:Nat):Int):=fun x y i j h1 h2 h h'=>by rw[qb,ky (by omega) (by omega)];omega
 have hadd0:∀i,vaddN 0 i=i:=fun i=>by simp only[qaddN,Nat.zero_add]
 have hsg:∀a b,vc .lss (kcU a b) 0=decide (a<b):=fun a b=>by
  rw[qc];simp only[cV];rw[decide_eq_decide];exact ke5
 have hhalf:∀(x y:Int) (i j:Nat),x=i→y=j→i+j<1000000→vw .i64 (vb .shr .u64 (vw .u64 (vb .add .i64 x y)) 1)=(((i+j) / 2:Nat):Int):=fun x y i j h1 h2 h=>by
  rw[hadd x y i j h1 h2 h,qb,qw];exact ke6 (by omega)
 have hswp:=@kb3;have hswst:=@khH;generalize hSg:kcU=SG at *;generalize haI:(a:Int)=aI at *;generalize hbI:(b:Int)=bI at *;generalize hmI:(m:Int)=mI at *;have e1:vc .eql (vb .sub .i64 mI aI) 1=false:=by rw[hsub mI aI m a hmI.symm haI.symm (by omega) (by omega),qc,kx];omega
 have e2:vc .eql (vb .sub .i64 bI mI) 1=false:=by rw[hsub bI mI b m hbI.symm hmI.symm (by omega) (by omega),qc,kx];omega
 obtain⟨mid,hmid⟩:∃mid,mid=(a+b) / 2:=⟨_,rfl⟩;obtain⟨n,hn⟩:∃n,n=mid+m:=⟨_,rfl⟩;obtain⟨dI,hd⟩:∃u,u=vw .i64 (vb .shr .u64 (vw .u64 (vb .add .i64 aI bI)) 1):=⟨_,rfl⟩;have hd':dI=(mid:Int):=by rw[hd,hhalf aI bI a b haI.symm hbI.symm (by omega),hmid]
 obtain⟨nI,hnI⟩:∃u,u=vb .add .i64 dI mI:=⟨_,rfl⟩;have hnI':nI=(n:Int):=by rw[hnI,hadd dI mI mid m hd' hmI.symm (by omega),hn]
 obtain⟨pI,hpI⟩:∃u,u=vb .sub .i64 nI 1:=⟨_,rfl⟩;have hpI':pI=((n-1:Nat):Int):=by rw[hpI,hsub nI 1 n 1 hnI' rfl (by omega) (by omega)]
 have hgt:vc .gtr mI dI=decide (mid<m):=by rw[qc];simp only[cV];rw[decide_eq_decide,←hmI,hd'];omega
 have hLR1:mid<m→∀u:Int,u=vb .sub .i64 nI bI→u=((n-b:Nat):Int)∧dI=(mid:Int)∧LRi a m b mid n (n-b) mid:=fun h u hu=>⟨hu.trans (hsub nI bI n b hnI' hbI.symm (by omega) (by omega)),hd',LRi.of (.inl ⟨h,rfl,rfl⟩)⟩
 have hLR2:¬mid<m→aI=(a:Int)∧mI=(m:Int)∧LRi a m b mid n a m:=fun h=>⟨haI.symm,hmI.symm,LRi.of (.inr ⟨by omega,rfl,rfl⟩)⟩
 have hexit:=fun(lo r0 i:Nat) (iI:Int) (hiI:iI=(i:Int))=>mex (iI:=iI) (lo:=lo) (r0:=r0) hb hma hmb hst hsl hsr ih hrotc hmid hn haI.symm hiI hd' hmI.symm hbI.symm
 have hround:=fun(lo r0 i j:Nat) (iI jI:Int) (h0:LRi a m b mid n lo r0) (h1:iI=(i:Int)) (h2:jI=(j:Int))=>mrd hN hb hma hmb hsl hsr qb qw qtoN hmid hn hpI' h0 h1 h2
 have hl3:∀lo r0,LRi a m b mid n lo r0→lo≤r0:=fun lo r0 h=>(h.out.in (by omega) (by omega) hmid hn).2.2.1
 have hsubn:∀(iI u:Int) (i:Nat),iI=(i:Int)→i≤n→u=vb .sub .i64 nI iI→u=((n-i:Nat):Int):=fun iI u i h1 h2 h3=>by rw[h3];exact hsub nI iI n i hnI' h1 h2 (by omega)
 have hlss:∀(x y:Int) (i j:Nat),x=i→y=j→vc .lss x y=decide (i<j):=fun x y i j h1 h2=>by rw[qc];exact khI h1 h2
 have hnt:vnotB true=false:=by simp only[qnotB];rfl
 have hnf:vnotB false=true:=by simp only[qnotB];rfl
 have haI2:=haI.symm;have hmI2:=hmI.symm;have hbI2:=hbI.symm;clear ih hrotc hst hsl hsr hhalf hadd hsub hswp hswst hpI' hnI' hN hma hmb hb;cbv;rw[e1];cbv;rw[e2];cbv;rw[←hd];rw[←hnI];rw[hgt];refine' ksL _ (fun(js:Nat→Value) (loI rI:Int) (lo r0:Nat)=>loI=lo∧rI=r0∧LRi a m b mid n lo r0) (fun key=>?_) ?_
 rotate_left
 ·by_cases hgm:mid<m
  ·rw[decide_eq_true hgm];cbv;obtain⟨u,hu⟩:∃u,u=vb .sub .i64 nI bI:=⟨_,rfl⟩;rw[←hu,←hpI];obtain⟨rI,hrI⟩:∃r,r=dI:=⟨_,rfl⟩;obtain⟨lo,hlo⟩:∃r,r=n-b:=⟨_,rfl⟩;obtain⟨r0,hr0⟩:∃r,r=mid:=⟨_,rfl⟩;have hfin:u=lo∧rI=r0∧LRi a m b mid n lo r0:=by rw[hlo,hrI,hr0];exact hLR1 hgm u hu
   refine WX.cv (Cv.slotEq 21 (.int .i64 rI) (by rfl) (fun σ=>by rw[hrI]) (Cv.fold [138,139,140,141,142,143,144,145,146,147,148,149,150,151,152,153,154,155,156,157,158,159,160,161,162,163,164,165,166,167,168,169,170,171,172,173,174] 2 [] (by exact Nat.le_refl _) (by exact Nat.le_of_ble_eq_true rfl) (by rfl) (by cbv) ?_))
   intro js;cbv;exact key js u rI lo r0 hfin
  ·rw[decide_eq_false hgm];cbv;rw[←hpI];obtain⟨u,hu⟩:∃r,r=aI:=⟨_,rfl⟩;obtain⟨rI,hrI⟩:∃r,r=mI:=⟨_,rfl⟩;obtain⟨lo,hlo⟩:∃r,r=a:=⟨_,rfl⟩;obtain⟨r0,hr0⟩:∃r,r=m:=⟨_,rfl⟩;have hfin:u=lo∧rI=r0∧LRi a m b mid n lo r0:=by rw[hlo,hrI,hr0,hu];exact hLR2 hgm
   refine WX.cv (Cv.slotEq 20 (.int .i64 u) (by rfl) (fun σ=>by rw[hu]) (Cv.slotEq 21 (.int .i64 rI) (by rfl) (fun σ=>by rw[hrI]) (Cv.fold [138,139,140,141,142,143,144,145,146,147,148,149,150,151,152,153,154,155,156,157,158,159,160,161,162,163,164,165,166,167,168,169,170,171,172,173,174] 2 [] (by exact Nat.le_refl _) (by exact Nat.le_of_ble_eq_true rfl) (by rfl) (by cbv) ?_)))
   intro js;cbv;exact key js u rI lo r0 hfin
 rintro js loI rI lo r0 ⟨hlo,hr0,hLR⟩;have hinv0:loI=lo∧rI=r0∧lo≤lo∧lo≤r0∧r0≤r0∧LoF k p n lo lo∧HiF k p n r0 r0:=⟨hlo,hr0,Nat.le_refl _,hl3 lo r0 hLR,Nat.le_refl _,LoF.of (fun x h1 h2=>absurd h1 (Nat.not_le_of_lt h2)),HiF.of (fun x h1 h2=>absurd h1 (Nat.not_le_of_lt h2))⟩;clear hLR1 hLR2 hgt hd hnI hpI e1 e2 hl3;refine kl (α:=Int×Int×Nat×Nat) ([23]++[138,139,140,141,142,143,144,145,146,147,148,149,150,151,152,153,154,155,156,157,158,159,160,161,162,163,164,165,166,167,168,169,170,171,172,173,174]) []
  (fun(iI,jI,i,j)=>[(20,.int .i64 iI),(21,.int .i64 jI)])
  (fun(iI,jI,i,j)=>[])
  (fun(iI,jI,i,j)=>iI=i∧jI=j∧lo≤i∧i≤j∧j≤r0∧LoF k p n lo i∧HiF k p n j r0)
  (fun(iI,jI,i,j)=>j-i) hw hm ?_ ?_
 ·refine Cv.fold ([23]++[138,139,140,141,142,143,144,145,146,147,148,149,150,151,152,153,154,155,156,157,158,159,160,161,162,163,164,165,166,167,168,169,170,171,172,173,174]) 2 [] (by exact Nat.le_refl _) (by exact Nat.le_of_ble_eq_true rfl) (by rfl) (by cbv) ?_
  intro js2;exact⟨(_,_,_,_),hinv0,js2,rfl⟩
 ·rintro ⟨iI,jI,i,j⟩ js2 ⟨g1,g2,g3,g4,g5,g6,g7⟩;clear hinv0;have hc1:=hlss iI jI i j g1 g2;by_cases hij:i<j
  rotate_left
  ·have hc2:vc .lss iI jI=false:=by rw[hc1];exact decide_eq_false hij
   have hE:=hexit lo r0 i iI g1 hLR g3 (Nat.le_trans g4 g5) g6 (by rw[show i=j from Nat.le_antisymm g4 (Nat.le_of_not_lt hij)];exact g7);have he0:=hsubn iI (vb .sub .i64 nI iI) i g1 hE.2 rfl;have hE1:=hE.1;clear hE;refine Exists.elim (⟨n-i,rfl⟩:∃e,e=n-i) (fun e he=>?_)
   refine Exists.elim (⟨q8 p i m (n-i),rfl⟩:∃Q1,Q1=q8 p i m (n-i)) (fun Q1 hQ1=>?_)
   rw[←hQ1,←he] at hE1;rw[←he] at he0;refine Exists.elim (⟨vb .sub .i64 nI iI,rfl⟩:∃eI,eI=vb .sub .i64 nI iI) (fun eI heI=>?_)
   rw[←heI] at he0;have q1:=hlss iI mI i m g1 hmI2;have q2':=hlss mI eI m e hmI2 he0;have q3:=hlss aI iI a i haI2 g1;have q4:=hlss iI dI i mid g1 hd';have q5':=hlss dI eI mid e hd' he0;have q6':=hlss eI bI e b he0 hbI2;have hrid:=hE1.rid;have hR':=hE1.rot eI he0;have R1:=hE1.r1;have N1:=hE1.n1;have R2':=hE1.r2 eI he0;have N2:=hE1.n2;have FIN:=hE1.fin;have hx1:=hE1.x1;have hx2:=hE1.x2;clear hE1 hc1 he0 hexit hround hlss hsubn g1 g2 g3 g4 g5 g6 g7 hLR hmid hn hcmp hadd0 hsg he hQ1 hnt hnf hij haI2 hmI2 hbI2 hd' hlo hr0;generalize @PermOn=PO at *;generalize @St=ST at *;generalize @Srt=SR at *;cbv;rw[hc2];cbv;rw[←heI,q1];by_cases t1:i<m
   rotate_left
   ·have hp:=hrid (fun h=>t1 h.1);clear hrid hR' q2';subst hp;rw[decide_eq_false t1];cbv;rw[q3];by_cases u3:a<i
    ·rw[decide_eq_true u3];cbv;rw[q4];by_cases u4:i<mid
     ·rw[decide_eq_true u4];cbv;refine ka (ρ:=[(0,.z),(1,.z)]) (R1 u3 u4) ⟨by rfl,by rfl,by rfl,by cbv;rw[kD];((repeat' first|(refine And.intro ?_ ?_)|exact trivial|exact⟨Nat.le_refl _⟩|exact kb _|exact fun _=>rfl|(simp only[renL3];done)|(show SB.roA _ _ _=SB.roA _ _ _;rfl)|exact funext fun _=>rfl)<;>rfl)⟩ ?_
      rintro v2 H R js12 ⟨rfl,rfl,r2,h1,rfl⟩;cbv;(repeat refine And.intro (fun _=>rfl) ?_);rw[kD];cbv;rw[q5'];rw[decide_eq_false (hx1 t1)];cbv;obtain⟨z1,z2,z3⟩:=N2 r2 h1.1 h1.2.1 (fun h=>hx1 t1 h.1);exact⟨r2,FIN r2 r2 h1.1 h1.2.2 z1 z2 z3,rfl⟩
     ·rw[decide_eq_false u4];cbv;have h1:=N1 (fun h=>u4 h.2);rw[q5'];rw[decide_eq_false (hx1 t1)];cbv;obtain⟨z1,z2,z3⟩:=N2 Q1 h1.1 h1.2.1 (fun h=>hx1 t1 h.1);exact⟨Q1,FIN Q1 Q1 h1.1 h1.2.2 z1 z2 z3,rfl⟩
    ·rw[decide_eq_false u3];cbv;have h1:=N1 (fun h=>u3 h.1);rw[q5'];rw[decide_eq_false (hx1 t1)];cbv;obtain⟨z1,z2,z3⟩:=N2 Q1 h1.1 h1.2.1 (fun h=>hx1 t1 h.1);exact⟨Q1,FIN Q1 Q1 h1.1 h1.2.2 z1 z2 z3,rfl⟩
   ·rw [decide_eq_true t1]
    cbv;rw[q2'];by_cases t2:m<e
    ·skip
     rw[decide_eq_true t2];cbv;refine ka (ρ:=[(0,.z),(1,.z)]) (hR' t1 t2) ⟨by rfl,by rfl,by rfl,by cbv;rw[kD];((repeat' first|(refine And.intro ?_ ?_)|exact trivial|exact⟨Nat.le_refl _⟩|exact kb _|exact fun _=>rfl|(simp only[renL3];done)|(show SB.roA _ _ _=SB.roA _ _ _;rfl)|exact funext fun _=>rfl)<;>rfl)⟩ ?_
     rintro v1 H R js11 ⟨rfl,rfl,rfl⟩;cbv;(repeat refine And.intro (fun _=>rfl) ?_);rw[kD];cbv;rw[q3];by_cases u3:a<i
     ·rw [decide_eq_true u3]
      cbv;rw[q4];by_cases u4:i<mid
      ·rw[decide_eq_true u4];cbv;refine ka (ρ:=[(0,.z),(1,.z)]) (R1 u3 u4) ⟨by rfl,by rfl,by rfl,by cbv;rw[kD];((repeat' first|(refine And.intro ?_ ?_)|exact trivial|exact⟨Nat.le_refl _⟩|exact kb _|exact fun _=>rfl|(simp only[renL3];done)|(show SB.roA _ _ _=SB.roA _ _ _;rfl)|exact funext fun _=>rfl)<;>rfl)⟩ ?_
       rintro v2 H R js12 ⟨rfl,rfl,r2,h1,rfl⟩;cbv;(repeat refine And.intro (fun _=>rfl) ?_);rw[kD];cbv;rw[q5'];by_cases u1:mid<e
       ·rw[decide_eq_true u1];cbv;rw[q6'];by_cases u2:e<b
        ·skip
         rw[decide_eq_true u2];cbv;refine ka (ρ:=[(0,.z),(1,.z)]) (R2' r2 h1.1 h1.2.1 u1 u2) ⟨by rfl,by rfl,by rfl,by cbv;rw[kD];((repeat' first|(refine And.intro ?_ ?_)|exact trivial|exact⟨Nat.le_refl _⟩|exact kb _|exact fun _=>rfl|(simp only[renL3];done)|(show SB.roA _ _ _=SB.roA _ _ _;rfl)|exact funext fun _=>rfl)<;>rfl)⟩ ?_
         rintro v3 H R js13 ⟨rfl,rfl,r3,⟨z1,z2,z3⟩,rfl⟩;cbv;(repeat refine And.intro (fun _=>rfl) ?_);rw[kD];cbv;exact⟨r3,FIN r2 r3 h1.1 h1.2.2 z1 z2 z3,rfl⟩
        ·skip
         rw[decide_eq_false u2];cbv;obtain⟨z1,z2,z3⟩:=N2 r2 h1.1 h1.2.1 (fun h=>u2 h.2);exact⟨r2,FIN r2 r2 h1.1 h1.2.2 z1 z2 z3,rfl⟩
       ·rw[decide_eq_false u1];cbv;obtain⟨z1,z2,z3⟩:=N2 r2 h1.1 h1.2.1 (fun h=>u1 h.1);exact⟨r2,FIN r2 r2 h1.1 h1.2.2 z1 z2 z3,rfl⟩
      ·rw[decide_eq_false u4];cbv;have h1:=N1 (fun h=>u4 h.2);rw[q5'];by_cases u1:mid<e
       ·rw[decide_eq_true u1];cbv;rw[q6'];by_cases u2:e<b
        ·skip
         rw[decide_eq_true u2];cbv;refine ka (ρ:=[(0,.z),(1,.z)]) (R2' Q1 h1.1 h1.2.1 u1 u2) ⟨by rfl,by rfl,by rfl,by cbv;rw[kD];((repeat' first|(refine And.intro ?_ ?_)|exact trivial|exact⟨Nat.le_refl _⟩|exact kb _|exact fun _=>rfl|(simp only[renL3];done)|(show SB.roA _ _ _=SB.roA _ _ _;rfl)|exact funext fun _=>rfl)<;>rfl)⟩ ?_
         rintro v3 H R js13 ⟨rfl,rfl,r3,⟨z1,z2,z3⟩,rfl⟩;cbv;(repeat refine And.intro (fun _=>rfl) ?_);rw[kD];cbv;exact⟨r3,FIN Q1 r3 h1.1 h1.2.2 z1 z2 z3,rfl⟩
        ·skip
         rw[decide_eq_false u2];cbv;obtain⟨z1,z2,z3⟩:=N2 Q1 h1.1 h1.2.1 (fun h=>u2 h.2);exact⟨Q1,FIN Q1 Q1 h1.1 h1.2.2 z1 z2 z3,rfl⟩
       ·rw[decide_eq_false u1];cbv;obtain⟨z1,z2,z3⟩:=N2 Q1 h1.1 h1.2.1 (fun h=>u1 h.1);exact⟨Q1,FIN Q1 Q1 h1.1 h1.2.2 z1 z2 z3,rfl⟩
     ·rw[decide_eq_false u3];cbv;have h1:=N1 (fun h=>u3 h.1);rw[q5'];by_cases u1:mid<e
      ·rw[decide_eq_true u1];cbv;rw[q6'];by_cases u2:e<b
       ·skip
        rw[decide_eq_true u2];cbv;refine ka (ρ:=[(0,.z),(1,.z)]) (R2' Q1 h1.1 h1.2.1 u1 u2) ⟨by rfl,by rfl,by rfl,by cbv;rw[kD];((repeat' first|(refine And.intro ?_ ?_)|exact trivial|exact⟨Nat.le_refl _⟩|exact kb _|exact fun _=>rfl|(simp only[renL3];done)|(show SB.roA _ _ _=SB.roA _ _ _;rfl)|exact funext fun _=>rfl)<;>rfl)⟩ ?_
        rintro v3 H R js13 ⟨rfl,rfl,r3,⟨z1,z2,z3⟩,rfl⟩;cbv;(repeat refine And.intro (fun _=>rfl) ?_);rw[kD];cbv;exact⟨r3,FIN Q1 r3 h1.1 h1.2.2 z1 z2 z3,rfl⟩
       ·skip
        rw[decide_eq_false u2];cbv;obtain⟨z1,z2,z3⟩:=N2 Q1 h1.1 h1.2.1 (fun h=>u2 h.2);exact⟨Q1,FIN Q1 Q1 h1.1 h1.2.2 z1 z2 z3,rfl⟩
      ·rw[decide_eq_false u1];cbv;obtain⟨z1,z2,z3⟩:=N2 Q1 h1.1 h1.2.1 (fun h=>u1 h.1);exact⟨Q1,FIN Q1 Q1 h1.1 h1.2.2 z1 z2 z3,rfl⟩
    ·have hp:=hrid (fun h=>t2 h.2);clear hrid hR';subst hp;rw[decide_eq_false t2];cbv;rw[q3];have u3:=(hx2 t1 t2).2.1;have u4:=(hx2 t1 t2).1;rw[decide_eq_true u3];cbv;rw[q4];rw[decide_eq_false u4];cbv;have h1:=N1 (fun h=>u4 h.2);rw[q5'];by_cases u1:mid<e
     ·rw[decide_eq_true u1];cbv;rw[q6'];have u2:=(hx2 t1 t2).2.2;rw[decide_eq_true u2];cbv;refine ka (ρ:=[(0,.z),(1,.z)]) (R2' Q1 h1.1 h1.2.1 u1 u2) ⟨by rfl,by rfl,by rfl,by cbv;rw[kD];((repeat' first|(refine And.intro ?_ ?_)|exact trivial|exact⟨Nat.le_refl _⟩|exact kb _|exact fun _=>rfl|(simp only[renL3];done)|(show SB.roA _ _ _=SB.roA _ _ _;rfl)|exact funext fun _=>rfl)<;>rfl)⟩ ?_
      rintro v3 H R js13 ⟨rfl,rfl,r3,⟨z1,z2,z3⟩,rfl⟩;cbv;(repeat refine And.intro (fun _=>rfl) ?_);rw[kD];cbv;exact⟨r3,FIN Q1 r3 h1.1 h1.2.2 z1 z2 z3,rfl⟩
     ·rw[decide_eq_false u1];cbv;obtain⟨z1,z2,z3⟩:=N2 Q1 h1.1 h1.2.1 (fun h=>u1 h.1);exact⟨Q1,FIN Q1 Q1 h1.1 h1.2.2 z1 z2 z3,rfl⟩
  ·have hc2:vc .lss iI jI=true:=by rw[hc1];exact decide_eq_true hij
   have hE:=hround lo r0 i j iI jI hLR g1 g2 g3 hij g5 g6 g7;refine Exists.elim (⟨(i+j) / 2,rfl⟩:∃h,h=(i+j) / 2) (fun h hh=>?_)
   rw[←hh] at hE;refine Exists.elim (⟨n-1-h,rfl⟩:∃g,g=n-1-h) (fun g hg=>?_)
   rw[←hg] at hE;have hu0:=hE.u;have hv0:=hE.v;have hlh:=hE.lh;have hlg:=hE.lg;have hl0:=hE.l0;have hA:=fun(_:Unit)=>hE.a
   have hB:=fun(_:Unit)=>hE.b
   clear hE hc1 hexit hround hlss hsubn hLR hmid hn hh hg haI2 hmI2 hbI2 hd' hlo hr0 g1 g2 g3 g4 g5 g6 g7 hij;cbv;rw[hc2];cbv;obtain⟨u,hu⟩:∃u,u=vw .i64 (vb .shr .u64 (vw .u64 (vb .add .i64 iI jI)) 1):=⟨_,rfl⟩;obtain⟨hu',htu,hru⟩:=hu0 u hu;rw[←hu];obtain⟨v,hv⟩:∃v,v=vb .sub .i64 pI u:=⟨_,rfl⟩;obtain⟨htv,hrv⟩:=hv0 u v hu' hv;rw[←hv,htu,htv,hadd0,hadd0];cbv;repeat (refine And.intro (by first|exact hru|exact hrv|exact⟨hlg⟩|exact⟨hlh⟩|exact⟨hl0⟩) ?_)
   refine ka (ρ:=[(1,.z)]) (hcmp _ _ _ _ _ _ _ _) ⟨by rfl,by rfl,by rfl,by cbv;exact⟨fun _=>rfl,trivial⟩⟩ ?_
   rintro v H R js3 ⟨rfl,rfl,rfl⟩;cbv;(repeat refine And.intro (fun _=>rfl) ?_);rw[hsg];by_cases hk:k (p g)<k (p h)
   ·rw[decide_eq_true hk];cbv;rw[hnt];cbv;have hfin:=hB () hk u hu';refine Cv.fold ([23]++[138,139,140,141,142,143,144,145,146,147,148,149,150,151,152,153,154,155,156,157,158,159,160,161,162,163,164,165,166,167,168,169,170,171,172,173,174]) 2 [] (by exact Nat.le_refl _) (by exact Nat.le_of_ble_eq_true rfl) (by rfl) (by cbv) ?_
    intro js4;exact⟨(_,_,_,h),hfin,js4,rfl⟩
   ·rw[decide_eq_false hk];cbv;rw[hnf];cbv;obtain⟨w,hw1⟩:∃v,v=vb .add .i64 u 1:=⟨_,rfl⟩;rw[←hw1];obtain⟨h1,hfin⟩:=hA () hk u w hu' hw1;refine Cv.fold ([23]++[138,139,140,141,142,143,144,145,146,147,148,149,150,151,152,153,154,155,156,157,158,159,160,161,162,163,164,165,166,167,168,169,170,171,172,173,174]) 2 [] (by exact Nat.le_refl _) (by exact Nat.le_of_ble_eq_true rfl) (by rfl) (by cbv) ?_
    intro js4;exact⟨(_,_,h1,_),hfin,js4,rfl⟩
theorem km8 (k:Nat→Int) (x l c:Nat→Nat) (N C cap:Nat) (hN:N≤100000):∀(d:Nat) (p:Nat→Nat) (a m b:Nat),b-a≤d→a<m→m<b→b≤N→St k p→Srt k p a m→Srt k p m b →
  Con Try.prog 139 [.slice 0 .z 2 N cap,.int .i64 a,.int .i64 m,.int .i64 b,.fn 131 [.ptr 1 .z 1 0]] [kQ k x l c N C p,.one 202 [.fn 115 []]]
  (fun v H R=>v=.tup []∧R=[]∧∃q,(PermOn p q a b∧St k q∧Srt k q a b)∧H=[kQ k x l c N C q,.one 202 [.fn 115 []]]):=by
 intro d;induction d with
 |zero=>intro p a m b h1 h2 h3;omega
 | succ d ih=>
  intro p a m b h1 h2 h3 h4 h5 h6 h7;by_cases c1:m=a+1
  ·exact kkI k x l c p N C cap a m b hN c1 h3 h4 h5 h7
  ·by_cases c2:b=m+1
   ·exact kkJ k x l c p N C cap a m b hN (by omega) c2 h4 h5 h6
   ·refine kkK k x l c p N C cap a m b hN (by omega) (by omega) h4 h5 h6 h7 (fun q aI mI bI a' m' b' g1 g2 g3 g4 g5 g6 g7 e1 e2 e3=>?_)
    subst e1 e2 e3;exact ih q a' m' b' (by omega) g2 g3 g4 g5 g6 g7
end Go.Proofs.Ytlclleihoampdaa
