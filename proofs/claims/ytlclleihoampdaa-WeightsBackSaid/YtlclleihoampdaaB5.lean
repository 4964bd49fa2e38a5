import Derived.Test.YtlclleihoampdaaB4
import Derived.Test.YtlclleihoampdaaB3
set_option linter.unusedVariables false
set_option linter.unusedSimpArgs false
namespace Go.Proofs.Ytlclleihoampdaa
open Go Go.Sx Go.Proofs
section
attribute [local irreducible] St Srt
end
end Go.Proofs.Ytlclleihoampdaa
namespace Go.Proofs.Ytlclleihoampdaa
theorem kmG:∀(N:Nat) (f:Nat→Nat),(∀i,i<N→f i<N)→(∀i j,i<N→j<N→f i=f j→i=j)→∀y,y<N→∃i,i<N∧f i=y:=by
  intro N;induction N with
  |zero=>intro f _ _ y hy;omega
  | succ N ih=>
    intro f h1 h2 y hy;by_cases hN:y=f N
    · exact⟨N,by omega,hN.symm⟩
    · have hfN:=h1 N (by omega)
      have key:=ih (fun i=>if f i=N then f N else f i) (fun i hi=>by
          have a1:=h1 i (by omega);have a2:=h2 i N (by omega) (by omega);split
          · rename_i e
            by_cases e2:f N=N
            · exact absurd (a2 (e.trans e2.symm)) (by omega)
            · omega
          · omega) (fun i j hi hj e=>by
          have a1:=h2 i j (by omega) (by omega);have a2:=h2 i N (by omega) (by omega);have a3:=h2 j N (by omega) (by omega);repeat' split at e
          · exact a1 (by omega)
          · exact absurd (a3 (by omega)) (by omega)
          · exact absurd (a2 (by omega)) (by omega)
          · exact a1 e)
      by_cases hyN:y=N
      · have hlt:f N<N:=by omega
        obtain⟨i,hi,e⟩:=key (f N) hlt;split at e
        · rename_i e2;exact⟨i,by omega,by omega⟩
        · exact absurd (h2 i N (by omega) (by omega) e) (by omega)
      · obtain⟨i,hi,e⟩:=key y (by omega)
        split at e
        · omega
        · exact⟨i,by omega,e⟩

structure RowQ (n D:Nat) (k0:Nat→Int) (q:Nat→Nat):Prop where
  lt:∀i,i<n+D→q i<n+D
  inj:∀i j,i<n+D→j<n+D→q i=q j→i=j
  srt:∀i j,i<j→j<n+D→k0 (q i)≤k0 (q j)
  st:∀i j,i<j→j<n+D→k0 (q i)=k0 (q j)→q i<q j
  coins:∀i j,i<j→j<n→k0 i≤k0 j
  packs:∀i j,n≤i→i<j→j<n+D→k0 i≤k0 j
theorem RowQ.meet {n D:Nat} {k0:Nat→Int} {q:Nat→Nat} (h:RowQ n D k0 q):∀y,y<n+D→∃i,i<n+D∧q i=y:=kmG (n+D) q h.lt h.inj
theorem RowQ.cut {n D:Nat} {k0:Nat→Int} {q:Nat→Nat} (h:RowQ n D k0 q):∀m,m≤n+D→∃c d,c+d=m∧c≤n∧d≤D∧(∀y,(y<c∨(n≤y∧y<n+d))↔∃i,i<m∧q i=y):=by
  intro m;induction m with
  |zero=>intro _;exact⟨0,0,rfl,by omega,by omega,fun y=>⟨fun h=>by omega,fun⟨i,hi,_⟩=>by omega⟩⟩
  | succ m ih=>
    intro hm;obtain⟨c,d,e1,e2,e3,e4⟩:=ih (by omega);have hq:=h.lt m (by omega);have hnot:¬(q m<c∨(n≤q m∧q m<n+d)):=fun hh=>by
      obtain⟨i,hi,e⟩:=(e4 (q m)).1 hh;have:=h.inj i m (by omega) (by omega) e;omega
    have later:∀y,y<n+D→¬(y<c∨(n≤y∧y<n+d))→y≠q m→∃i,m<i∧i<n+D∧q i=y:=fun y hy hno hne=>by
      obtain⟨i,hi,e⟩:=h.meet y hy;have h1:¬i<m:=fun hlt=>hno ((e4 y).2 ⟨i,hlt,e⟩)
      have h2:i≠m:=fun e'=>hne (by rw[←e,e'])
      exact⟨i,by omega,hi,e⟩
    have step:∀y,y<q m→k0 y≤k0 (q m)→y<n+D→(y<c∨(n≤y∧y<n+d)):=fun y hy hk hyn=>by
      refine Classical.byContradiction fun hno=>?_
      obtain⟨i,h1,h2,h3⟩:=later y hyn hno (by omega);have h4:=h.srt m i h1 h2;have h5:=h.st m i h1 h2;rw[h3] at h4 h5;have:=h5 (by omega);omega
    by_cases hc:q m<n
    · have hqc:q m=c:=by
        refine Classical.byContradiction fun hne=>?_
        have:=step c (by omega) (h.coins c (q m) (by omega) hc) (by omega);omega
      refine⟨c+1,d,by omega,by omega,e3,fun y=>⟨fun hy=>?_,fun⟨i,hi,e⟩=>?_⟩⟩
      · by_cases hyc:y=c
        · exact⟨m,by omega,by omega⟩
        · obtain⟨i,hi,e⟩:=(e4 y).1 (by omega)
          exact⟨i,by omega,e⟩
      · by_cases him:i=m
        · subst him;omega
        · have:=(e4 y).2 ⟨i,by omega,e⟩
          omega
    · have hqd:q m=n+d:=by
        refine Classical.byContradiction fun hne=>?_
        have:=step (n+d) (by omega) (h.packs (n+d) (q m) (by omega) (by omega) hq) (by omega);omega
      refine⟨c,d+1,by omega,e2,by omega,fun y=>⟨fun hy=>?_,fun⟨i,hi,e⟩=>?_⟩⟩
      · by_cases hyc:y=n+d
        · exact⟨m,by omega,by omega⟩
        · obtain⟨i,hi,e⟩:=(e4 y).1 (by omega)
          exact⟨i,by omega,e⟩
      · by_cases him:i=m
        · subst him;omega
        · have:=(e4 y).2 ⟨i,by omega,e⟩
          omega
def qZ (f:Nat→Int):Nat→Int
  |0=>0
  |m+1=>qZ f m+f m
theorem qy {f g:Nat→Int}:∀m,(∀i,i<m→f i=g i)→qZ f m=qZ g m
  |0,_=>rfl
  |m+1,h=>by simp only[qZ];rw[qy m (fun i hi=>h i (by omega)),h m (by omega)]
theorem RowQ.sum {n D:Nat} {k0:Nat→Int} {q:Nat→Nat} (h:RowQ n D k0 q) (f:Nat→Int):∀m c d,m≤n+D→c+d=m→c≤n→d≤D→(∀y,(y<c∨(n≤y∧y<n+d))↔∃i,i<m∧q i=y)→qZ (fun i=>f (q i)) m=qZ f c+qZ (fun i=>f (n+i)) d:=by
  intro m;induction m with
  | zero => intro c d _ e _ _ _;obtain rfl:c=0:=by omega
            obtain rfl:d=0:=by omega
            rfl
  | succ m ih=>
    intro c d hm e e2 e3 e4;obtain⟨c',d',f1,f2,f3,f4⟩:=h.cut m (by omega);have hq:=(e4 (q m)).2 ⟨m,by omega,rfl⟩;have hqn:¬(q m<c'∨(n≤q m∧q m<n+d')):=fun hh=>by
      obtain⟨i,hi,e⟩:=(f4 (q m)).1 hh;have:=h.inj i m (by omega) (by omega) e;omega
    have sub:∀y,(y<c'∨(n≤y∧y<n+d'))→(y<c∨(n≤y∧y<n+d)):=fun y hy=>by
      obtain⟨i,hi,e⟩:=(f4 y).1 hy;exact(e4 y).2 ⟨i,by omega,e⟩
    have hcc:c'≤c:=Classical.byContradiction fun hh=>by have:=sub c (by omega);omega
    have hdd:d'≤d:=Classical.byContradiction fun hh=>by have:=sub (n+d) (by omega);omega
    simp only[qZ];rw[ih c' d' (by omega) f1 f2 f3 f4];by_cases hc:c'+1=c
    · obtain rfl:d'=d:=by omega
      subst hc;obtain hq':q m=c':=by omega
      simp only[qZ];rw[hq'];omega
    · obtain rfl:c'=c:=by omega
      obtain rfl:d=d'+1:=by omega
      obtain hq':q m=n+d':=by omega
      simp only[qZ];rw[hq'];omega
inductive RowP (n:Nat) (kc:Nat→Int) (sc:Nat→Nat):Nat→Nat→(Nat→Int)→(Nat→List Int)→Prop
 |one {K:Nat→Int} {S:Nat→List Int} (h:∀i,i<n→K i=kc i∧S i=[(sc i:Int)]):RowP n kc sc 1 n K S
 | next {j N N':Nat} {K k0 K':Nat→Int} {S S0 S':Nat→List Int} {q:Nat→Nat} (h:RowP n kc sc j N K S) (hN:N'=n+N / 2)
   (hc:∀m,m<n→k0 m=kc m∧S0 m=[(sc m:Int)]) (hp:∀e,e<N / 2→k0 (n+e)=K (2*e)+K (2*e+1)∧S0 (n+e)=S (2*e)++S (2*e+1))
   (h1:∀i,i<N'→q i<N') (h2:∀i j,i<N'→j<N'→q i=q j→i=j) (h3:∀i j,i<j→j<N'→k0 (q i)≤k0 (q j)) (h4:∀i j,i<j→j<N'→k0 (q i)=k0 (q j)→q i<q j)
   (hs:∀i,i<N'→K' i=k0 (q i)∧S' i=S0 (q i)):RowP n kc sc (j+1) N' K' S'
structure kib (n:Nat) (kc:Nat→Int) (B:Int):Prop where
 pos:∀i,i<n→0<kc i
 le:∀i,i<n→kc i≤B
 srt:∀i j,i<j→j<n→kc i≤kc j
structure koX (n:Nat) (sc:Nat→Nat) (B:Int) (j N:Nat) (K:Nat→Int) (S:Nat→List Int):Prop where
 n1:n≤N
 n2:N≤2*n
 pos:∀i,i<N→0<K i
 srt:∀i j,i<j→j<N→K i≤K j
 le:∀i,i<N→K i≤B*(2^(j-1):Nat)
 len:∀i,i<N→(S i).length≤2^(j-1)∧0<(S i).length
 sym:∀i,i<N→∀y∈S i,∃t,t<n∧y=(sc t:Int)
theorem RowP.basic {n:Nat} {kc:Nat→Int} {sc:Nat→Nat} {B:Int} (hk:kib n kc B) (hB:0≤B):∀{j N:Nat} {K:Nat→Int} {S:Nat→List Int},RowP n kc sc j N K S→1≤j∧koX n sc B j N K S:=by
 intro j N K S h;induction h with
 |one h=>
  refine⟨Nat.le_refl _,Nat.le_refl _,by omega,fun i hi=>by rw[(h i hi).1];exact hk.pos i hi,fun i j hij hj=>by rw[(h i (by omega)).1,(h j hj).1];exact hk.srt i j hij hj,fun i hi=>?_,fun i hi=>by rw[(h i hi).2];simp,fun i hi y hy=>?_⟩
  ·rw[(h i hi).1];simpa using hk.le i hi
  ·rw[(h i hi).2] at hy;simp at hy;exact⟨i,hi,hy⟩
 | @next j N N' K k0 K' S S0 S' q h hN hc hp h1 h2 h3 h4 hs ih=>
  obtain⟨hj,ih⟩:=ih;have hn1:=ih.n1;have hn2:=ih.n2;have hpow:(2:Nat)^(j+1-1)=2*2^(j-1):=by
   obtain⟨t,rfl⟩:∃t,j=t+1:=⟨j-1,by omega⟩;rw[show t+1+1-1=t+1 by omega,show t+1-1=t by omega,Nat.pow_succ];omega
  have hP1:1≤2^(j-1):=Nat.one_le_two_pow;have hbase:∀y,y<N'→0<k0 y∧k0 y≤B*((2*2^(j-1):Nat):Int)∧((S0 y).length≤2*2^(j-1)∧0<(S0 y).length)∧∀z∈S0 y,∃t,t<n∧z=(sc t:Int):=by
   intro y hy;by_cases hyn:y<n
   ·rw[(hc y hyn).1,(hc y hyn).2];have a1:=hk.pos y hyn;have a2:=hk.le y hyn;have a3:B*1≤B*((2*2^(j-1):Nat):Int):=Int.mul_le_mul_of_nonneg_left (by omega) hB;refine⟨a1,by omega,by simp;omega,fun z hz=>?_⟩
    simp at hz;exact⟨y,hyn,hz⟩
   ·obtain⟨e,rfl⟩:∃e,y=n+e:=⟨y-n,by omega⟩;have he:e<N / 2:=by omega
    rw[(hp e he).1,(hp e he).2];have a1:=ih.pos (2*e) (by omega);have a2:=ih.pos (2*e+1) (by omega);have a3:=ih.le (2*e) (by omega);have a4:=ih.le (2*e+1) (by omega);have a5:=ih.len (2*e) (by omega);have a6:=ih.len (2*e+1) (by omega);have a7:B*((2*2^(j-1):Nat):Int)=B*(2^(j-1):Nat)+B*(2^(j-1):Nat):=by
     rw[show((2*2^(j-1):Nat):Int)=((2^(j-1):Nat):Int)+((2^(j-1):Nat):Int) by omega,Int.mul_add]
    refine⟨by omega,by omega,by rw[List.length_append];omega,fun z hz=>?_⟩
    rcases List.mem_append.1 hz with hz|hz
    ·exact ih.sym (2*e) (by omega) z hz
    ·exact ih.sym (2*e+1) (by omega) z hz
  refine⟨by omega,by omega,by omega,fun i hi=>?_,fun i j hij hj=>?_,fun i hi=>?_,fun i hi=>?_,fun i hi=>?_⟩
  ·rw[(hs i hi).1];exact(hbase _ (h1 i hi)).1
  ·rw[(hs i (by omega)).1,(hs j hj).1];exact h3 i j hij hj
  ·rw[(hs i hi).1,hpow];exact(hbase _ (h1 i hi)).2.1
  ·rw[(hs i hi).2,hpow];exact(hbase _ (h1 i hi)).2.2.1
  ·rw[(hs i hi).2];exact(hbase _ (h1 i hi)).2.2.2
theorem RowQ.of {n:Nat} {kc:Nat→Int} {sc:Nat→Nat} {B:Int} (hk:kib n kc B) {j N N':Nat} {K k0:Nat→Int} {S:Nat→List Int} {q:Nat→Nat} (ih:koX n sc B j N K S) (hN:N'=n+N / 2)
  (hc:∀m,m<n→k0 m=kc m) (hp:∀e,e<N / 2→k0 (n+e)=K (2*e)+K (2*e+1))
  (h1:∀i,i<N'→q i<N') (h2:∀i j,i<N'→j<N'→q i=q j→i=j) (h3:∀i j,i<j→j<N'→k0 (q i)≤k0 (q j)) (h4:∀i j,i<j→j<N'→k0 (q i)=k0 (q j)→q i<q j):RowQ n (N / 2) k0 q:=by
 subst hN;refine⟨h1,h2,h3,h4,fun i j hij hj=>by rw[hc i (by omega),hc j hj];exact hk.srt i j hij hj,fun i j hi hij hj=>?_⟩
 obtain⟨e,rfl⟩:∃e,i=n+e:=⟨i-n,by omega⟩;obtain⟨e',rfl⟩:∃e,j=n+e:=⟨j-n,by omega⟩;rw[hp e (by omega),hp e' (by omega)];have:=ih.srt (2*e) (2*e') (by omega) (by omega);have:=ih.srt (2*e+1) (2*e'+1) (by omega) (by omega);omega
theorem RowP.great {n:Nat} {kc:Nat→Int} {sc:Nat→Nat} {B:Int} (hk:kib n kc B) (hB:0≤B) (hn:2≤n):∀{j N:Nat} {K:Nat→Int} {S:Nat→List Int},RowP n kc sc j N K S→2*n-3<N→kc (n-1)≤K (2*n-3):=by
 intro j N K S h;induction h with
 |one h=>
  intro hlt;obtain rfl:n=2:=by omega
  rw[(h 1 (by omega)).1];exact Int.le_refl _
 | @next j N N' K k0 K' S S0 S' q h hN hc hp h1 h2 h3 h4 hs ih=>
  intro hlt;obtain⟨hj,hb⟩:=h.basic hk hB;have hQ:=RowQ.of hk hb hN (fun m hm=>(hc m hm).1) (fun e he=>(hp e he).1) h1 h2 h3 h4;have hn1:=hb.n1;refine Classical.byContradiction fun hno=>?_
  obtain⟨c,d,e1,e2,e3,e4⟩:=hQ.cut (2*n-2) (by omega);have hlow:∀i,i<2*n-2→k0 (q i)<kc (n-1):=fun i hi=>by
   have hx:k0 (q i)≤k0 (q (2*n-3)):=by
    by_cases e:i=2*n-3
    ·rw[e];exact Int.le_refl _
    ·exact h3 i (2*n-3) (by omega) hlt
   rw[(hs _ hlt).1] at hno;omega
  have hcn:c≤n-1:=Classical.byContradiction fun hh=>by
   obtain⟨i,hi,e⟩:=(e4 (n-1)).1 (.inl (by omega));have:=hlow i hi;rw[e,(hc (n-1) (by omega)).1] at this;omega
  obtain⟨i,hi,e⟩:=(e4 (n+(n-2))).1 (.inr (by omega));have hl:=hlow i hi;rw[e,(hp (n-2) (by omega)).1] at hl;have h5:=hb.pos (2*(n-2)) (by omega);have h6:=ih (by omega);rw[show 2*(n-2)+1=2*n-3 by omega] at hl;omega
theorem RowP.many {n:Nat} {kc:Nat→Int} {sc:Nat→Nat} {L:Nat} (hL:n≤2^L):∀{j N:Nat} {K:Nat→Int} {S:Nat→List Int},RowP n kc sc j N K S→∀t,j+t=L→2*n≤N+2^(t+1):=by
 intro j N K S h;induction h with
 |one h=>
  intro t ht;obtain rfl:t+1=L:=by omega
  omega
 |@next j N N' K k0 K' S S0 S' q h hN hc hp h1 h2 h3 h4 hs ih=>
  intro t ht;have:=ih (t+1) (by omega);rw[Nat.pow_succ] at this;have h2:1≤2^(t+1):=Nat.one_le_two_pow;have h3:2^(t+1)=2*2^t:=by rw[Nat.pow_succ];omega
  omega
def wC:List Nat→Nat
 |[]=>0
 |c::r=>c*2^r.length+wC r
def kja (f:Nat→Int):List Nat→Int
 |[]=>0
 |c::r=>qZ f c+kja f r
def ka0 (φ:Int→Int):List Int→Int
 |[]=>0
 |y::l=>φ y+ka0 φ l
theorem kbw (φ:Int→Int) (b:List Int):∀a,ka0 φ (a++b)=ka0 φ a+ka0 φ b
 |[]=>by simp[ka0]
 |y::a=>by simp only[List.cons_append,ka0];rw[kbw φ b a];omega
def kb2:List Nat→Nat
 |[]=>0
 |c::_=>c
theorem kcl (f:Nat→Int):∀d,qZ (fun e=>f (2*e)+f (2*e+1)) d=qZ f (2*d)
 |0=>rfl
 |d+1=>by rw[show 2*(d+1)=2*d+1+1 by omega];simp only[qZ];rw[kcl f d];omega
structure kol (n:Nat) (kc:Nat→Int) (sc:Nat→Nat) (K:Nat→Int) (S:Nat→List Int) (j m:Nat) (cs:List Nat):Prop where
 len:cs.length=j
 dn:cs.Pairwise (fun a b=>b≤a)
 le:∀c∈cs,c≤n
 w:wC cs=m*2^(j-1)
 sum:∀φ:Int→Int,qZ (fun t=>ka0 φ (S t)) m=kja (fun i=>φ (sc i)) cs
 val:qZ K m=kja kc cs
 there:∀i,i<kb2 cs→∃t,t<m∧K t=kc i
 top:2≤n→m=2*n-2→kb2 cs=n
theorem RowP.cuts {n:Nat} {kc:Nat→Int} {sc:Nat→Nat} {B:Int} (hk:kib n kc B) (hB:0≤B):∀{j N:Nat} {K:Nat→Int} {S:Nat→List Int},RowP n kc sc j N K S→∀m,m≤N→∃cs,kol n kc sc K S j m cs:=by
 intro j N K S h;induction h with
 | one h=>
  intro m hm;refine⟨[m],rfl,by simp,by simpa using hm,by simp[wC],fun φ=>?_,?_,fun i hi=>⟨i,hi,(h i (by simp only[kb2] at hi;omega)).1⟩,fun h2 h3=>?_⟩
  ·simp only[kja];rw[qy m (fun i hi=>by rw[(h i (by omega)).2])];simp[ka0]
  ·simp only[kja];rw[qy m (fun i hi=>(h i (by omega)).1)];simp
  ·simp only[kb2];omega
 | @next j N N' K k0 K' S S0 S' q h hN hc hp h1 h2 h3 h4 hs ih=>
  intro m hm;obtain⟨hj,hb⟩:=h.basic hk hB;have hQ:=RowQ.of hk hb hN (fun m hm=>(hc m hm).1) (fun e he=>(hp e he).1) h1 h2 h3 h4;subst hN;obtain⟨c,d,e1,e2,e3,e4⟩:=hQ.cut m hm;obtain⟨cs,g⟩:=ih (2*d) (by omega);have hn1:=hb.n1;have hmeet:∀i,i<n→¬i<c→∃i',m≤i'∧i'<n+N / 2∧q i'=i:=fun i hi hno=>by
   obtain⟨i',a1,a2⟩:=hQ.meet i (by omega);refine⟨i',Classical.byContradiction fun hh=>?_,a1,a2⟩
   have:=(e4 i).2 ⟨i',by omega,a2⟩;omega
  have hhead:kb2 cs≤c:=Classical.byContradiction fun hh=>by
   obtain⟨t,ht,hK⟩:=g.there c (by omega);have hcn:c<n:=by
    have hle:=g.le;cases cs with
    |nil=>simp[kb2] at hh
    |cons a r=>have:=hle a (by simp);simp only[kb2] at hh;omega
   obtain⟨i',a1,a2,a3⟩:=hmeet c hcn (by omega);obtain⟨p,b1,b2⟩:=(e4 (n+t / 2)).1 (.inr (by omega));have hle:=h3 p i' (by omega) a2;rw[b2,a3,(hp (t / 2) (by omega)).1,(hc c hcn).1] at hle;have p1:=hb.pos (2*(t / 2)) (by omega);have p2:=hb.pos (2*(t / 2)+1) (by omega);rcases(by omega:t=2*(t / 2)∨t=2*(t / 2)+1) with e|e
   ·rw[e] at hK;omega
   ·rw[e] at hK;omega
  have hpow:(2:Nat)^(j+1-1)=2*2^(j-1):=by
   obtain⟨t,rfl⟩:∃t,j=t+1:=⟨j-1,by omega⟩;rw[show t+1+1-1=t+1 by omega,show t+1-1=t by omega,Nat.pow_succ];omega
  have hsum:∀V0 V':Nat→Int,(∀i,i<n+N / 2→V' i=V0 (q i))→qZ V' m=qZ V0 c+qZ (fun i=>V0 (n+i)) d:=fun V0 V' hV=>by
   rw[qy m (fun i hi=>hV i (by omega))];exact hQ.sum V0 m c d hm e1 e2 e3 e4
  refine⟨c::cs,by simp[g.len],?_,?_,?_,fun φ=>?_,?_,fun i hi=>?_,fun n2 hm2=>?_⟩
  ·refine List.pairwise_cons.2 ⟨fun a ha=>?_,g.dn⟩
   have hdn:=g.dn;cases cs with
   |nil=>cases ha
   |cons b r=>
    simp only[kb2] at hhead;rcases List.mem_cons.1 ha with rfl|ha
    ·exact hhead
    ·have:=(List.pairwise_cons.1 hdn).1 a ha;omega
  ·intro a ha;rcases List.mem_cons.1 ha with rfl|ha
   ·exact e2
   ·exact g.le a ha
  ·simp only[wC];rw[g.w,g.len,hpow,show 2^j=2*2^(j-1) by rw[←hpow];rfl,←e1,Nat.add_mul,Nat.mul_assoc,Nat.mul_left_comm d 2]
  ·simp only[kja];rw[hsum (fun i=>ka0 φ (S0 i)) _ (fun i hi=>by rw[(hs i hi).2]),←g.sum φ,←kcl];congr 1
   ·exact qy c (fun i hi=>by rw[(hc i (by omega)).2];simp[ka0])
   ·exact qy d (fun i hi=>by rw[(hp i (by omega)).2,kbw])
  ·simp only[kja];rw[hsum k0 _ (fun i hi=>(hs i hi).1),←g.val,←kcl];congr 1
   ·exact qy c (fun i hi=>(hc i (by omega)).1)
   ·exact qy d (fun i hi=>(hp i (by omega)).1)
  ·simp only[kb2] at hi;obtain⟨t,ht,e⟩:=(e4 i).1 (.inl hi);exact⟨t,ht,by rw[(hs t (by omega)).1,e,(hc i (by omega)).1]⟩
  ·simp only[kb2];refine Classical.byContradiction fun hne=>?_
   obtain⟨i',a1,a2,a3⟩:=hmeet (n-1) (by omega) (by omega);obtain⟨p,b1,b2⟩:=(e4 (n+(n-2))).1 (.inr (by omega));have hle:=h3 p i' (by omega) a2;rw[b2,a3,(hp (n-2) (by omega)).1,(hc (n-1) (by omega)).1] at hle;have p1:=hb.pos (2*(n-2)) (by omega);have hg:=h.great hk hB n2 (by omega);rw[show 2*(n-2)+1=2*n-3 by omega] at hle;omega
end Go.Proofs.Ytlclleihoampdaa
namespace Go.Proofs.Ytlclleihoampdaa
open Go Go.Sx Go.Proofs
@[irreducible] def kk7 (f:Nat→Nat) (i n:Nat):Nat→Nat:=fun m=>if m=i then n else f m
theorem kjP (f:Nat→Nat) (i n m:Nat):kk7 f i n m=if m=i then n else f m:=by unfold kk7;rfl
@[irreducible] def knv (f:Nat→List Int) (i:Nat) (n:List Int):Nat→List Int:=fun m=>if m=i then n else f m
theorem kgw (f:Nat→List Int) (i:Nat) (n:List Int) (m:Nat):knv f i n m=if m=i then n else f m:=by unfold knv;rfl
def kmH (l:List Int):Nat:=l.countP (fun c=>decide (0<c))
structure CoinsTo (l:List Int) (i n:Nat) (k:Nat→Int) (s:Nat→Nat):Prop where
 num:n=kmH (l.take i)
 pos:∀m,m<n→0<k m∧k m=l.getD (s m) 0∧s m<i
 inj:∀a b,a<n→b<n→s a=s b→a=b
 all:∀t,t<i→0<l.getD t 0→∃m,m<n∧s m=t
theorem kk8 {l:List Int} {i:Nat} (hi:i<l.length):kmH (l.take (i+1))=kmH (l.take i)+if 0<l.getD i 0 then 1 else 0:=by
 unfold kmH;rw[List.take_add_one,List.countP_append];congr 1
 rw[List.getElem?_eq_getElem hi,List.getD_eq_getElem?_getD,List.getElem?_eq_getElem hi];simp only[Option.toList,Option.getD_some];by_cases h:0<l[i]
 ·rw[if_pos h];simp[h]
 ·rw[if_neg h];simp[h]
theorem CoinsTo.nil (l:List Int) (k:Nat→Int) (s:Nat→Nat):CoinsTo l 0 0 k s:=⟨by simp[kmH],fun m hm=>by omega,fun a b ha=>by omega,fun t ht=>by omega⟩
theorem CoinsTo.no {l:List Int} {i n:Nat} {k:Nat→Int} {s:Nat→Nat} (h:CoinsTo l i n k s) (hi:i<l.length) (hz:¬0<l.getD i 0):CoinsTo l (i+1) n k s:=by
 refine⟨by rw[kk8 hi,if_neg hz,h.num];rfl,fun m hm=>?_,h.inj,fun t ht hp=>?_⟩
 ·obtain⟨h1,h2,h3⟩:=h.pos m hm;exact⟨h1,h2,by omega⟩
 ·by_cases e:t=i
  ·subst e;exact absurd hp hz
  ·exact h.all t (by omega) hp
@[irreducible] def ColdS (c:Nat→Option CB) (n:Nat) (x ln:Nat→Nat) (S:Nat→List Int):Prop:=∀m,m<n→c (x m)=some (.ints .i64 (S m))∧ln m=(S m).length
theorem ColdS.out {c:Nat→Option CB} {n:Nat} {x ln:Nat→Nat} {S:Nat→List Int} (h:ColdS c n x ln S):∀m,m<n→c (x m)=some (.ints .i64 (S m))∧ln m=(S m).length:=by unfold ColdS at h;exact h
theorem ColdS.of {c:Nat→Option CB} {n:Nat} {x ln:Nat→Nat} {S:Nat→List Int} (h:∀m,m<n→c (x m)=some (.ints .i64 (S m))∧ln m=(S m).length):ColdS c n x ln S:=by unfold ColdS;exact h
theorem ColdS.nil (c:Nat→Option CB) (x ln:Nat→Nat) (S:Nat→List Int):ColdS c 0 x ln S:=.of (fun m hm=>by omega)
theorem ColdS.upd {c:Nat→Option CB} {n:Nat} {x ln:Nat→Nat} {S:Nat→List Int} (h:ColdS c n x ln S) {id:Nat} {B:CB} (hid:c id=none):ColdS (kiX c id B) n x ln S:=
 .of (fun m hm=>⟨khD hid (h.out m hm).1,(h.out m hm).2⟩)
theorem ColdS.more {c:Nat→Option CB} {n:Nat} {x ln:Nat→Nat} {S:Nat→List Int} (h:ColdS c n x ln S) {id:Nat} (hid:c id=none) (b:List Int) (len:Nat) (hl:len=b.length) :
  ColdS (kiX c id (.ints .i64 b)) (n+1) (kk7 x n id) (kk7 ln n len) (knv S n b):=by
 refine .of (fun m hm=>?_)
 rw[kjP,kjP,kgw];by_cases e:m=n
 ·rw[if_pos e,if_pos e,if_pos e];exact⟨klX _ _ _,hl⟩
 ·rw[if_neg e,if_neg e,if_neg e];exact⟨khD hid (h.out m (by omega)).1,(h.out m (by omega)).2⟩
theorem ColdS.perm {c:Nat→Option CB} {n n':Nat} {x ln:Nat→Nat} {S:Nat→List Int} (h:ColdS c n x ln S) (q:Nat→Nat) (hq:∀m,m<n'→q m<n):ColdS c n' (fun m=>x (q m)) (fun m=>ln (q m)) (fun m=>S (q m)):=
 .of (fun m hm=>h.out (q m) (hq m hm))
def koY (K:Nat→Int) (x ln cp:Nat→Nat):Nat→List Value:=fun m=>[.int .u64 (K m),.slice (some ⟨x m,0,none⟩) (ln m) (cp m)]
structure kpC (n:Nat) (kc:Nat→Int) (sc xc lc:Nat→Nat) (Sc:Nat→List Int) (j N idr capr:Nat) (K:Nat→Int) (x ln cp:Nat→Nat) (S:Nat→List Int) (c:Nat→Option CB):Prop where
 row:RowP n kc sc j N K S
 cap:N≤capr
 at':c idr=some (.rows 2 N (koY K x ln cp))
 syms:ColdS c N x ln S
 coins:ColdS c n xc lc Sc
structure NextIn (n:Nat) (kc:Nat→Int) (xc lc:Nat→Nat) (Sc:Nat→List Int) (N e:Nat) (K:Nat→Int) (S:Nat→List Int) (x ln:Nat→Nat) (k0:Nat→Int) (x0 l0:Nat→Nat) (S0:Nat→List Int) (c:Nat→Option CB):Prop where
 le:e≤N / 2
 kc:∀m,m<n→k0 m=kc m∧S0 m=Sc m
 kp:∀d,d<e→k0 (n+d)=K (2*d)+K (2*d+1)∧S0 (n+d)=S (2*d)++S (2*d+1)
 new:ColdS c (n+e) x0 l0 S0
 syms:ColdS c N x ln S
 coins:ColdS c n xc lc Sc
theorem NextIn.step {n:Nat} {kc:Nat→Int} {xc lc:Nat→Nat} {Sc:Nat→List Int} {N e:Nat} {K:Nat→Int} {S:Nat→List Int} {x ln:Nat→Nat} {k0:Nat→Int} {x0 l0:Nat→Nat} {S0:Nat→List Int} {c:Nat→Option CB}
  (h:NextIn n kc xc lc Sc N e K S x ln k0 x0 l0 S0 c) (he:e+1≤N / 2) {id:Nat} (hid:c id=none) (len:Nat) (hlen:len=(S (2*e)++S (2*e+1)).length) :
  NextIn n kc xc lc Sc N (e+1) K S x ln (q6 k0 (n+e) (K (2*e)+K (2*e+1))) (kk7 x0 (n+e) id) (kk7 l0 (n+e) len) (knv S0 (n+e) (S (2*e)++S (2*e+1))) (kiX c id (.ints .i64 (S (2*e)++S (2*e+1)))):=by
 refine⟨he,fun m hm=>?_,fun d hd=>?_,h.new.more hid _ len hlen,h.syms.upd hid,h.coins.upd hid⟩
 ·rw[kU,kgw,if_neg (by omega),if_neg (by omega)];exact h.kc m hm
 ·rw[kU,kgw];by_cases e':d=e
  ·subst e';rw[if_pos rfl,if_pos rfl];exact⟨rfl,rfl⟩
  ·rw[if_neg (by omega),if_neg (by omega)];exact h.kp d (by omega)
theorem NextIn.done {n:Nat} {kc:Nat→Int} {sc xc lc:Nat→Nat} {Sc:Nat→List Int} {N j:Nat} {K:Nat→Int} {S:Nat→List Int} {x ln:Nat→Nat} {k0:Nat→Int} {x0 l0:Nat→Nat} {S0:Nat→List Int} {c:Nat→Option CB} {q:Nat→Nat}
  (h:NextIn n kc xc lc Sc N (N / 2) K S x ln k0 x0 l0 S0 c) (hr:RowP n kc sc j N K S) (hSc:∀m,m<n→Sc m=[(sc m:Int)]) (hp:PermOn (fun m=>m) q 0 (n+N / 2)) (hst:St k0 q) (hs:Srt k0 q 0 (n+N / 2)) :
  RowP n kc sc (j+1) (n+N / 2) (fun m=>k0 (q m)) (fun m=>S0 (q m))∧ColdS c (n+N / 2) (fun m=>x0 (q m)) (fun m=>l0 (q m)) (fun m=>S0 (q m)):=by
 have hlt:∀m,m<n+N / 2→q m<n+N / 2:=fun m hm=>by
  obtain⟨m',_,h2,e⟩:=hp.sub m (Nat.zero_le _) hm;rw[e];exact h2
 have hinj:=hp.inj (fun i j h=>h);unfold Srt at hs;unfold St at hst;exact⟨.next hr rfl (fun m hm=>⟨(h.kc m hm).1,by rw[(h.kc m hm).2];exact hSc m hm⟩) (fun e he=>h.kp e he) hlt (fun i j _ _ e=>hinj i j e) (fun i j hij hj=>hs i j (Nat.zero_le _) hij hj) (fun i j hij hj e=>hst i j hij e) (fun i hi=>⟨rfl,rfl⟩),h.new.perm q hlt⟩
def kgx (s:Int) (y:Int):Int:=if y=s then 1 else 0
@[irreducible] def OutP (S:Nat→List Int) (i t r:Nat) (o:List Int):Prop:=o.length=i∧∀s:Nat,s<i→o.getD s 0=(qZ (fun t=>ka0 (kgx s) (S t)) t+ka0 (kgx s) ((S t).take r)) % 256
theorem OutP.out {S:Nat→List Int} {i t r:Nat} {o:List Int} (h:OutP S i t r o):o.length=i∧∀s:Nat,s<i→o.getD s 0=(qZ (fun t=>ka0 (kgx s) (S t)) t+ka0 (kgx s) ((S t).take r)) % 256:=by unfold OutP at h;exact h
theorem OutP.start (S:Nat→List Int) (i:Nat):OutP S i 0 0 (List.replicate i 0):=by
 unfold OutP;refine⟨by simp,fun s hs=>?_⟩
 rw[List.getD_eq_getElem?_getD,List.getElem?_replicate,if_pos hs];simp[qZ,ka0]
theorem OutP.next {S:Nat→List Int} {i t r:Nat} {o:List Int} (h:OutP S i t r o) (hr:r=(S t).length):OutP S i (t+1) 0 o:=by
 obtain⟨h1,h2⟩:=h.out;unfold OutP;refine⟨h1,fun s hs=>?_⟩
 rw[h2 s hs,hr,List.take_length];simp[qZ,ka0]
theorem OutP.step {S:Nat→List Int} {i t r:Nat} {o:List Int} (h:OutP S i t r o) (hr:r<(S t).length) {y:Nat} (hy:(S t).getD r 0=(y:Int)) (hyi:y<i):OutP S i t (r+1) (o.set y ((o.getD y 0+1) % 256)):=by
 obtain⟨h1,h2⟩:=h.out;unfold OutP;refine⟨by simpa using h1,fun s hs=>?_⟩
 have e:ka0 (kgx s) ((S t).take (r+1))=ka0 (kgx s) ((S t).take r)+kgx s y:=by
  rw[List.take_add_one,kbw];congr 1
  rw[List.getD_eq_getElem?_getD,List.getElem?_eq_getElem hr] at hy;rw[List.getElem?_eq_getElem hr];simp only[Option.getD_some] at hy;simp[ka0,hy]
 rw[e,List.getD_eq_getElem?_getD,List.getElem?_set];have h3:=h2 s hs;rw[List.getD_eq_getElem?_getD] at h3;by_cases es:y=s
 ·subst es;rw[if_pos rfl,if_pos (by omega),List.getD_eq_getElem?_getD,h3];simp only[Option.getD_some,kgx,if_true];omega
 ·rw[if_neg es,h3];unfold kgx;rw[if_neg (by omega)];omega
section
attribute [local irreducible] St Srt koY
set_option maxRecDepth 100000
set_option maxHeartbeats 40000000
end
set_option maxRecDepth 100000
set_option maxHeartbeats 40000000
theorem kmI {n D:Nat} {k0:Nat→Int} {q:Nat→Nat} (h:RowQ n D k0 q) {c d:Nat} (hm:c+d<n+D) (hc:c≤n) (hd:d≤D) (e4:∀y,(y<c∨(n≤y∧y<n+d))↔∃i,i<c+d∧q i=y) :
  ((D≤d∨(c<n∧k0 c≤k0 (n+d)))→q (c+d)=c)∧(¬(D≤d∨(c<n∧k0 c≤k0 (n+d)))→q (c+d)=n+d):=by
 have hq:=h.lt (c+d) hm;have hnot:¬(q (c+d)<c∨(n≤q (c+d)∧q (c+d)<n+d)):=fun hh=>by
  obtain⟨i,hi,e⟩:=(e4 _).1 hh;have:=h.inj i (c+d) (by omega) (by omega) e;omega
 have later:∀y,y<n+D→¬(y<c∨(n≤y∧y<n+d))→y≠q (c+d)→k0 (q (c+d))≤k0 y∧(k0 (q (c+d))=k0 y→q (c+d)<y):=fun y hy hno hne=>by
  obtain⟨i,hi,e⟩:=h.meet y hy;have h1:¬i<c+d:=fun hlt=>hno ((e4 y).2 ⟨i,hlt,e⟩)
  have h2:i≠c+d:=fun e'=>hne (by rw[←e,e'])
  have h3:=h.srt (c+d) i (by omega) hi;have h4:=h.st (c+d) i (by omega) hi;rw[e] at h3 h4;exact⟨h3,h4⟩
 have hor:q (c+d)=c∨q (c+d)=n+d:=by
  by_cases hcn:q (c+d)<n
  ·refine .inl (Classical.byContradiction fun hne=>?_)
   have h1:=later c (by omega) (by omega) (by omega);have h2:=h.coins c (q (c+d)) (by omega) hcn;have h3:=h1.2 (by omega);omega
  ·refine .inr (Classical.byContradiction fun hne=>?_)
   have h1:=later (n+d) (by omega) (by omega) (by omega);have h2:=h.packs (n+d) (q (c+d)) (by omega) (by omega) hq;have h3:=h1.2 (by omega);omega
 refine⟨fun hh=>?_,fun hh=>?_⟩
 ·rcases hor with e|e
  ·exact e
  ·rcases hh with hh|⟨hh1,hh2⟩
   ·omega
   ·have h1:=later c (by omega) (by omega) (by omega);rw[e] at h1;have h3:=h1.2 (by omega);omega
 ·rcases hor with e|e
  ·by_cases hcn:c<n
   ·have h1:=later (n+d) (by omega) (by omega) (by omega);rw[e] at h1;exact absurd (.inr ⟨hcn,h1.1⟩) hh
   ·rw[e] at hnot ⊢;omega
  ·exact e
inductive MG (A B:List Int):Nat→Nat→List Int→Prop
 |start:MG A B 0 0 []
 |left {i j:Nat} {out:List Int} (h:MG A B i j out) (hi:i<A.length) (hc:B.length≤j∨(i<A.length∧A.getD i 0≤B.getD j 0)):MG A B (i+1) j (out++[A.getD i 0])
 |right {i j:Nat} {out:List Int} (h:MG A B i j out) (hj:j<B.length) (hc:¬(B.length≤j∨(i<A.length∧A.getD i 0≤B.getD j 0))):MG A B i (j+1) (out++[B.getD j 0])
theorem kfQ (a:List Int) (x:Int) (t:Nat) (ht:t<a.length+1):(a++[x]).getD t 0=if t=a.length then x else a.getD t 0:=by
 rw[List.getD_eq_getElem?_getD,List.getD_eq_getElem?_getD];by_cases e:t=a.length
 ·subst e;rw[if_pos rfl];simp
 ·rw[if_neg e,List.getElem?_append_left (by omega)]
theorem MG.len {A B:List Int}:∀{i j:Nat} {out:List Int},MG A B i j out→i≤A.length∧j≤B.length∧out.length=i+j∧∀y∈out,y∈A∨y∈B:=by
 intro i j out h;induction h with
 |start=>exact⟨Nat.zero_le _,Nat.zero_le _,rfl,fun y hy=>by cases hy⟩
 |@left i j out h hi hc ih=>
  obtain⟨h1,h2,h3,h4⟩:=ih;refine⟨hi,h2,by simp[h3];omega,fun y hy=>?_⟩
  rcases List.mem_append.1 hy with hy|hy
  ·exact h4 y hy
  ·left;simp at hy;subst hy;rw[List.getElem?_eq_getElem hi];exact List.getElem_mem hi
 |@right i j out h hj hc ih=>
  obtain⟨h1,h2,h3,h4⟩:=ih;refine⟨h1,hj,by simp[h3];omega,fun y hy=>?_⟩
  rcases List.mem_append.1 hy with hy|hy
  ·exact h4 y hy
  ·right;simp at hy;subst hy;rw[List.getElem?_eq_getElem hj];exact List.getElem_mem hj
theorem MG.row {n D:Nat} {k0:Nat→Int} {q:Nat→Nat} (h:RowQ n D k0 q) {A B:List Int} (hA:A.length=n) (hB:B.length=D) (hA2:∀i,i<n→A.getD i 0=k0 i) (hB2:∀e,e<D→B.getD e 0=k0 (n+e)) :
  ∀{i j:Nat} {out:List Int},MG A B i j out→(∀y,(y<i∨(n≤y∧y<n+j))↔∃t,t<i+j∧q t=y)∧∀t,t<i+j→out.getD t 0=k0 (q t):=by
 intro i j out hm;induction hm with
 |start=>exact⟨fun y=>⟨fun hy=>by omega,fun⟨t,ht,_⟩=>by omega⟩,fun t ht=>by omega⟩
 | @left i j out hm hi hc ih=>
  obtain⟨h1,h2⟩:=ih;obtain⟨l1,l2,l3,_⟩:=hm.len;have hnx:=(kmI h (by omega:i+j<n+D) (by omega) (by omega) h1).1 (by
   rcases hc with hc|⟨hc1,hc2⟩
   ·exact .inl (by omega)
   ·by_cases hj:D≤j
    ·exact .inl hj
    ·exact .inr ⟨by omega,by rw[hA2 i (by omega),hB2 j (by omega)] at hc2;exact hc2⟩)
  refine⟨fun y=>⟨fun hy=>?_,fun⟨t,ht,e⟩=>?_⟩,fun t ht=>?_⟩
  ·by_cases hyi:y=i
   ·exact⟨i+j,by omega,by rw[hnx,hyi]⟩
   ·obtain⟨t,ht,e⟩:=(h1 y).1 (by omega);exact⟨t,by omega,e⟩
  ·by_cases hti:t=i+j
   ·subst hti;omega
   ·have:=(h1 y).2 ⟨t,by omega,e⟩;omega
  ·rw[kfQ _ _ _ (by omega),l3];by_cases hti:t=i+j
   ·rw[if_pos hti,hti,hnx,hA2 i (by omega)]
   ·rw[if_neg hti];exact h2 t (by omega)
 | @right i j out hm hj hc ih=>
  obtain⟨h1,h2⟩:=ih;obtain⟨l1,l2,l3,_⟩:=hm.len;have hnx:=(kmI h (by omega:i+j<n+D) (by omega) (by omega) h1).2 (fun hh=>hc (by
   rcases hh with hh|⟨hc1,hc2⟩
   ·exact .inl (by omega)
   ·exact .inr ⟨by omega,by rw[hA2 i (by omega),hB2 j (by omega)];exact hc2⟩))
  refine⟨fun y=>⟨fun hy=>?_,fun⟨t,ht,e⟩=>?_⟩,fun t ht=>?_⟩
  ·by_cases hyi:y=n+j
   ·exact⟨i+j,by omega,by rw[hnx,hyi]⟩
   ·obtain⟨t,ht,e⟩:=(h1 y).1 (by omega);exact⟨t,by omega,e⟩
  ·by_cases hti:t=i+j
   ·subst hti;omega
   ·have:=(h1 y).2 ⟨t,by omega,e⟩;omega
  ·rw[kfQ _ _ _ (by omega),l3];by_cases hti:t=i+j
   ·rw[if_pos hti,hti,hnx,hB2 j (by omega)]
   ·rw[if_neg hti];exact h2 t (by omega)
inductive RW (A:List Int):Nat→List Int→Prop
 |one:RW A 1 A
 |next {j:Nat} {R B R':List Int} (h:RW A j R) (hB:B.length=R.length / 2) (hp:∀e,e<R.length / 2→B.getD e 0=R.getD (2*e) 0+R.getD (2*e+1) 0) (hm:MG A B A.length B.length R'):RW A (j+1) R'
theorem RW.one_le {A:List Int}:∀{j:Nat} {R:List Int},RW A j R→1≤j:=by
 intro j R h;cases h<;>omega
theorem RW.row {n:Nat} {kc:Nat→Int} {sc:Nat→Nat} {C:Int} (hk:kib n kc C) (hC:0≤C) {A:List Int} (hA:A.length=n) (hA2:∀i,i<n→A.getD i 0=kc i):∀{j N:Nat} {K:Nat→Int} {S:Nat→List Int},RowP n kc sc j N K S →
  ∀R,RW A j R→R.length=N∧∀t,t<N→R.getD t 0=K t:=by
 intro j N K S h;induction h with
 |one h=>
  intro R hR;cases hR with
  |one=>exact⟨hA,fun t ht=>by rw[hA2 t ht,(h t ht).1]⟩
  |next h' _ _ _=>have:=h'.one_le;omega
 | @next j N N' K k0 K' S S0 S' q h hN hc hp h1 h2 h3 h4 hs ih=>
  intro R' hR;obtain⟨hj,hb⟩:=h.basic hk hC;have hQ:=RowQ.of hk hb hN (fun m hm=>(hc m hm).1) (fun e he=>(hp e he).1) h1 h2 h3 h4;cases hR with
  |one=>omega
  |@next _ R B _ h' hB hpr hm=>
   obtain⟨r1,r2⟩:=ih R h';obtain⟨_,m2⟩:=MG.row hQ hA (by rw[hB,r1]) (fun i hi=>by rw[hA2 i hi,(hc i hi).1]) (fun e he=>by rw[hpr e (by rw[r1];exact he),r2 (2*e) (by omega),r2 (2*e+1) (by omega),(hp e he).1]) hm;obtain⟨_,_,l3,_⟩:=hm.len;refine⟨by rw[l3,hA,hB,r1,hN],fun t ht=>?_⟩
   rw[m2 t (by rw[hA,hB,r1];omega),(hs t ht).1]
def frq (t:List Int):Nat→List Int
  |0=>List.replicate 12 0
  |i+1=>(frq t i).set (t.getD i 0).toNat ((frq t i).getD (t.getD i 0).toNat 0+1)
def adX (f:List Int):Nat→List Int
  |0=>f
  |i+1=>if i<2 then(adX f i).set i ((adX f i).getD i 0+1) else adX f i
theorem kcX (t:List Int):∀i,(frq t i).length=12
  |0=>List.length_replicate
  |i+1=>by rw[frq,List.length_set,kcX t i]
theorem kaF (t:List Int):∀i j,0≤(frq t i).getD j 0∧(frq t i).getD j 0≤i
  | 0,j=>by
    rw[frq,List.getD_eq_getElem?_getD,List.getElem?_replicate];split<;>simp
  | i+1,j=>by
    rw[frq];have h1:=kaF t i j;have h2:=kaF t i (t.getD i 0).toNat;rcases kaj (frq t i) (t.getD i 0).toNat j ((frq t i).getD (t.getD i 0).toNat 0+1) with⟨h,_⟩|h<;>rw[h]<;>omega
theorem kcY (f:List Int):∀i,(adX f i).length=f.length
  |0=>rfl
  | i+1=>by
    rw[adX];split
    · rw[List.length_set,kcY f i]
    · exact kcY f i
theorem kdp {f:List Int} {m:Int} (h:∀j,0≤f.getD j 0∧f.getD j 0≤m):∀i j,0≤(adX f i).getD j 0∧(adX f i).getD j 0≤m+i
  |0,j=>by have:=h j;rw[adX];omega
  | i + 1,j=>by
    have h1:=kdp h i j;rw[adX];split
    · have h2:=kdp h i i
      rcases kaj (adX f i) i j ((adX f i).getD i 0+1) with⟨h,_⟩|h<;>rw[h]<;>omega
    · omega
def kgy (told:List Int):Prop:=
  ¬kgg (adX (frq told told.length) 12) 6∨∃cs,Fair (adX (frq told told.length) 12) cs 6∧kdM (jf cs 64) (qn cs 6 64 64) (qa cs 6 64 64) 64 told (pack (kZ cs 6))
theorem kic (told cs:List Int) (capT capC:Nat) (ht:∀c∈told,kR c) (htl:told.length≤256) (hcs:∀c∈cs,jo c) (hR:jc cs 6) :
    Con Try.prog 79 [.slice 0 .z 1 told.length capT,.slice 1 .z 1 cs.length capC,.int .i64 6] [.ro .u8 told,.ro .i16 cs] (fun v H R=>R=[] ∧
      ((v=.val (.slice none 0 0)∧H=[.ro .u8 told,.ro .i16 cs]∧kdM (jf cs 64) (qn cs 6 64 64) (qa cs 6 64 64) 64 told (pack (kZ cs 6))) ∨
       ∃(b:List Int) (c':Nat),b.length+1≤c'∧v=.slice 2 .z 1 (b.length+1) c'∧H=[.ro .u8 told,.ro .i16 cs,.buf 5 .u8 ((b.length:Int)::b) c']∧bst 256 b=some told∧b.length≤127∧∀x∈b,isByte x)):=by
  have hs64:(2:Int)^(6:Int).toNat=64:=by decide
  have hT:=khL cs 6 capC hcs (by decide) hR;rw[hs64] at hT;have hW:=kmf cs 6 capC hcs (by decide) hR;refine kgv told cs capT capC 64 _ _ _ ht htl hR.2.2.2.1 (by decide) (by decide) (fun k hk=>?_) (kcI hR) (kfG cs 6) hT hW
  obtain⟨b,b1,b2,b3,b4,b5⟩:=kgl hR hs64 (N:=64) rfl hk;have:(0:Int)<2^b:=Int.pow_pos (by omega);omega
theorem kom (told:List Int) (i:Nat):(frq told i).set (told.getD i 0).toNat ((frq told i).getD (told.getD i 0).toNat 0+1)=frq told (i+1):=rfl
theorem kbQ {x:Int} (h0:0≤x) (h1:x<4294967296):IntKind.u32.wrap x=x:=by
  simp[IntKind.wrap,IntKind.bits,IntKind.signed];omega
theorem kmJ {q:List Int} {m:Nat} (h:∀j:Nat,0≤q.getD j 0∧q.getD j 0≤m) (hm:m≤1000000):∀x∈q,kh7 x:=by
  intro x hx;obtain⟨j,hj,rfl⟩:=List.getElem_of_mem hx;have:=h j;rw[List.getD_eq_getElem?_getD,List.getElem?_eq_getElem hj,Option.getD_some] at this;unfold kh7;omega
theorem kgz (told:List Int) (cap:Nat) (ht:∀c∈told,kR c) (ht11:∀i,i<told.length→told.getD i 0≤11) (htl:told.length≤256) :
    Con Try.prog 46 [.slice 0 .z 1 told.length cap] [.ro .u8 told] (fun v H R=>R=[] ∧
      ((v=.val (.slice none 0 0)∧H=[.ro .u8 told]∧kgy told) ∨
       ∃(b:List Int) (c':Nat),b.length+1≤c'∧v=.slice 1 .z 1 (b.length+1) c'∧H=[.ro .u8 told,.buf 5 .u8 ((b.length:Int)::b) c']∧bst 256 b=some told∧b.length≤127∧∀x∈b,isByte x)):=by
  have hcnt:=fun(q:List Int) (c:Nat) (h:∀x∈q,kh7 x) (h2:q.length≤9223372036854775807)=>ki8 q 6 c h (by decide) h2
  have hby:=fun(cs:List Int) (c1 c2:Nat) (h1:∀c∈cs,jo c) (h2:jc cs 6)=>kic told cs c1 c2 ht htl h1 h2
  have hfi:∀q cs,Fair q cs 6→jc cs 6∧∀c∈cs,jo c:=fun q cs h=>⟨h.1,h.2.2.1⟩
  have hNil1:¬kgg (adX (frq told told.length) 12) 6→kgy told:=.inl;have hNil2:∀cs,Fair (adX (frq told told.length) 12) cs 6→kdM (jf cs 64) (qn cs 6 64 64) (qa cs 6 64 64) 64 told (pack (kZ cs 6))→kgy told:=fun cs h1 h2=>.inr ⟨cs,h1,h2⟩
  have hbt:=fun i=>qH ht i
  have hf0:frq told 0=List.replicate 12 0:=rfl;have hfs:=kom told;have hfl:=kcX told;have hfr:=kaF told;refine kw (ju (kH (kl kD kpa ?_)))
  intro vb vc _ vtoN vofN vaddN _ _ _ _ vgd vst vln vrep vsub vonto _ _ _ _ _ hw qb qc _ qtoN qofN qaddN _ _ _ _ qgd qst qln qrep qsub qonto _ _ _ _ _;have hm:=kD;generalize Try.prog=P at *;generalize hn:told.length=n at *;have hto:∀i:Nat,vtoN (i:Int)=i:=fun i=>by simp only[qtoN,Int.toNat_natCast]
  have hadd0:∀i,vaddN 0 i=i:=fun i=>by simp only[qaddN,Nat.zero_add]
  have hgd:∀l i,vgd l i=l.getD i 0:=fun l i=>by simp only[qgd]
  obtain⟨nI,hnI⟩:∃nI:Int,nI=n:=⟨_,rfl⟩;have en:vofN n=nI:=by rw[qofN,hnI]
  have hrep:vrep 12 0=frq told 0:=by rw[qrep,hf0]
  obtain⟨f0,hf0'⟩:∃f,f=frq told 0:=⟨_,rfl⟩;rw[←hf0'] at hrep;have hgt:∀i,i<n→0≤told.getD i 0∧told.getD i 0≤11:=fun i h=>⟨(hbt i).1,ht11 i h⟩
  generalize frq told=F at *;cbv;have t12:vtoN 12=12:=hto 12;rw[t12,hrep,en];(repeat refine And.intro ⟨by decide⟩ ?_);refine kv (α:=Int×List Int) ([5]++(List.range' 18 10)) [1] (fun(k,q)=>[(17,.int .i64 k)]) (fun(k,q)=>[(1,.ints 128 .u32 q)])
    (fun(k,q)=>∃i:Nat,k=i∧i≤n∧q=F i) (fun(k,_)=>n-k.toNat) hw hm ?_ ?_
  · refine Cv.genAt [17] [] (Cv.fold ([5]++(List.range' 18 10)) 2 [1] (by exact Nat.le_refl _) (by exact Nat.le_of_ble_eq_true rfl) (by rfl) (by cbv) ?_)
    intro js;exact⟨(_,_),⟨0,rfl,Nat.zero_le _,hf0'⟩,js,rfl⟩
  · rintro ⟨k, q⟩ js ⟨i,hk,hi,hq⟩
    generalize hz:vc .lss k nI=z;cases z
    rotate_left
    · rw[qc,ko] at hz
      have hlt:i<n:=by((try simp only[nc] at *);omega)
      have hti:vtoN k=i:=by rw[hk];exact hto i
      have hinR:0≤k∧k<(n:Int):=by((try simp only[nc] at *);omega)
      obtain⟨k1,hk1⟩:∃k1:Int,k1=((i+1:Nat):Int):=⟨_,rfl⟩;have ek:vb .add .i64 k 1=k1:=by(try simp only[nc] at *);rw[qb,kh (by omega) (by omega)];omega
      have hmu:∀_:Unit,n-k1.toNat<n-k.toNat:=fun _=>by((try simp only[nc] at *);omega)
      obtain⟨x,hx⟩:∃x,x=told.getD i 0:=⟨_,rfl⟩;have hx11:=hgt i hlt;rw[←hx] at hx11;obtain⟨xn,hxn⟩:∃xn:Nat,xn=x.toNat:=⟨_,rfl⟩;have htx:vtoN x=xn:=by rw[qtoN,hxn]
      have hxl:xn<12:=by((try simp only[nc] at *);omega)
      have hxI:0≤x∧x<12:=by((try simp only[nc] at *);omega)
      have hgx:vgd told i=x:=by rw[hx];exact hgd told i
      have hfr1:=hfr i xn;have hql:=hfl i;rw[←hq] at hfr1 hql;obtain⟨y,hy⟩:∃y,y=q.getD xn 0:=⟨_,rfl⟩;have hgy:vgd q xn=y:=by rw[hy];exact hgd q xn
      rw[←hy] at hfr1;have ey:vb .add .u32 y 1=y+1:=by rw[qb];exact kbQ (by((try simp only[nc] at *);omega)) (by((try simp only[nc] at *);omega))
      have hst:vst q xn (y+1)=F (i+1):=by rw[qst,←hfs i,←hq,←hx,←hxn,hy]
      have hlq:vln q=12:=by rw[qln];exact hql
      have hlt2:vln told=n:=by rw[qln];exact hn
      clear hcnt hby hfi hNil1 hNil2 hfs;generalize hz2:y+1=y1 at *;cbv;rw[show vc .lss k nI=true by rw[qc,ko];exact hz];cbv;rw[hti,hgx,htx,hgy,ey,hst,ek];refine⟨⟨hinR⟩,⟨by rw[hadd0,hlt2];exact hlt⟩,⟨by rw[hlt2];exact hlt⟩,⟨hxI⟩,⟨by rw[hlq];exact hxl⟩,⟨hxI⟩,⟨by rw[hlq];exact hxl⟩,?_⟩
      refine Cv.fold ([5]++(List.range' 18 10)) 2 [1] (by exact Nat.le_refl _) (by exact Nat.le_of_ble_eq_true rfl) (by rfl) (by cbv) ?_
      intro js;exact⟨(_,_),⟨⟨i+1,hk1,hlt,rfl⟩,hmu ()⟩,js,rfl⟩
    · rw [qc, kb] at hz
      have hin:i=n:=by((try simp only[nc] at *);omega)
      subst hin;subst hq;have hql:=hfl i;have hqr:=hfr i;have hc0:=fun c=>hcnt (F i) c (kmJ hqr (by omega)) (by rw[hql];decide)
      rw[hql] at hc0;obtain⟨q,hq⟩:∃q,q=F i:=⟨_,rfl⟩;have hqr1:=kdp (f:=q) (m:=i) (by rw[hq];exact hqr);have hql1:=kcY q;have hc1:=fun c=>hcnt (adX q 12) c (kmJ (m:=i+12) (by have:=hqr1 12;exact this) (by omega)) (by rw[hql1,hq,hql];decide)
      rw[hql1] at hc1;rw[←hq] at hc0 hql hqr hNil1;have hNil2:=fun cs=>hq▸hNil2 cs
      rw[hql] at hql1 hc1;have hads:∀j,j<2→adX q (j+1)=(adX q j).set j ((adX q j).getD j 0+1):=fun j hj=>by rw[adX,if_pos hj]
      have hadn:∀j,¬j<2→adX q (j+1)=adX q j:=fun j hj=>by rw[adX,if_neg hj]
      have had0:adX q 0=q:=rfl;have hlq:vln q=12:=by rw[qln];exact hql
      have hz1:vc .lss nI nI=false:=by rw[qc,kb];exact Int.lt_irrefl nI
      have ek:k=nI:=by((try simp only[nc] at *);omega)
      rw[←hq];generalize adX q=AD at *;clear hcnt hfs hfl hfr hq hgt hz;cbv;rw[ek,hz1];cbv;refine WX.unr 3 hw hm ?_
      cbv;have e2:vofN 2=2:=by rw[qofN];rfl
      have l0:vc .lss 0 2=true:=by rw[qc];rfl
      have l1:vc .lss 1 2=true:=by rw[qc];rfl
      have l2:vc .lss 2 2=false:=by rw[qc];rfl
      have a01:vb .add .i64 0 1=1:=by rw[qb];rfl
      have a11:vb .add .i64 1 1=2:=by rw[qb];rfl
      have t0:vtoN 0=0:=hto 0;have t1:vtoN 1=1:=hto 1;have g00:vc .gtr 0 0=false:=by rw[qc];rfl
      have g10:vc .gtr 1 0=true:=by rw[qc];rfl
      have e12:vofN 12=12:=by rw[qofN];rfl
      have lx:vln [0,1]=2:=by rw[qln];rfl
      have x0:vgd [0,1] 0=0:=hgd [0,1] 0;have x1:vgd [0,1] 1=1:=hgd [0,1] 1;have ln0:vln []=0:=by rw[qln];rfl
      have ad12:vaddN 0 12=12:=hadd0 12;have hont:vonto [] 0 (vsub q 0 12)=q:=by
        have:q.take 12=q:=by rw[←hql];exact List.take_length
        rw[qonto,qsub];simp[this]
      rw[e2,l0];cbv;have n20:vc .neq 2 0=true:=by rw[qc];rfl
      have n00:vc .neq 0 0=false:=by rw[qc];rfl
      rw[x0];refine⟨⟨by decide⟩,⟨by rw[lx];decide⟩,⟨by rw[ad12,hlq];exact Nat.le_refl _⟩,⟨by rw[ln0];exact Nat.le_refl _⟩,⟨by rw[ln0];exact Nat.le_refl _⟩,⟨by rw[ad12];decide⟩,?_⟩
      intro c0 jv0 hle0;have hlz0:12≤c0:=by have:=hle0.out;simp only at this;rw[ad12] at this;exact this
      cbv;rw[hont,ad12,e12];refine kv (α:=Int) ([10]++(List.range' 40 16)) [3,1] (fun k=>[(39,.int .i64 k)]) (fun _=>[]) (fun k=>∃i:Nat,k=i∧i≤12) (fun k=>12-k.toNat) hw hm ?_ ?_
      · refine Cv.genAt [39] [] (Cv.fold ([10]++(List.range' 40 16)) 4 [3,1] (by exact Nat.le_refl _) (by exact Nat.le_of_ble_eq_true rfl) (by rfl) (by cbv) ?_)
        intro js;exact⟨_,⟨0,rfl,by decide⟩,js,rfl⟩
      · rintro k js ⟨u,hk,hu⟩
        by_cases hu12:u=12
        rotate_left
        · have hz:vc .lss k 12=true:=by rw[qc,ko];((try simp only[nc] at *);omega)
          obtain⟨k1,hk1⟩:∃k1:Int,k1=((u+1:Nat):Int):=⟨_,rfl⟩;have ek:vb .add .i64 k 1=k1:=by(try simp only[nc] at *);rw[qb,kh (by omega) (by omega)];omega
          have hmu:12-k1.toNat<12-k.toNat:=by((try simp only[nc] at *);omega)
          cbv;rw[hz];cbv;rw[g00];cbv;rw[ek];refine Cv.fold ([10]++(List.range' 40 16)) 4 [3,1] (by exact Nat.le_refl _) (by exact Nat.le_of_ble_eq_true rfl) (by rfl) (by cbv) ?_
          intro js;exact⟨_,⟨⟨u+1,hk1,by omega⟩,hmu⟩,js,rfl⟩
        have hz:vc .lss k 12=false:=by rw[qc,kb];((try simp only[nc] at *);omega)
        cbv;rw[hz];cbv;refine ka (ρ:=[(3,.z)]) (hc0 c0) ⟨by rfl,by rfl,by rfl,by cbv;(repeat' first|(refine And.intro ?_ ?_)|exact trivial|exact⟨Nat.le_refl _⟩|exact kd _|exact fun _=>rfl|(simp only[renL3];done)|(show SB.roA _ _ _=SB.roA _ _ _;rfl)|exact funext fun _=>rfl)⟩ ?_
        rintro v H R js0 ⟨rfl,⟨hna0,rfl,rfl⟩|⟨hab0,cs0,hfa0,rfl,rfl⟩⟩
        · cbv
          rw[n20];cbv;rw[l1];cbv;rw[x1];refine⟨⟨by decide⟩,⟨by rw[lx];decide⟩,⟨by rw[ad12,hlq];exact Nat.le_refl _⟩,⟨by rw[ln0];exact Nat.le_refl _⟩,⟨by rw[ln0];exact Nat.le_refl _⟩,⟨by rw[ad12];decide⟩,?_⟩
          intro c1 jv1 hle1;have hlz1:12≤c1:=by have:=hle1.out;simp only at this;rw[ad12] at this;exact this
          cbv;rw[hont,ad12,e12];refine kv (α:=Int×List Int) ([10]++(List.range' 40 16)) [4,3,1] (fun(k,a)=>[(39,.int .i64 k)]) (fun(k,a)=>[(4,.buf 128 .u32 a c1)]) (fun(k,a)=>∃i:Nat,k=i∧i≤12∧a=AD i) (fun(k,a)=>12-k.toNat) hw hm ?_ ?_
          · refine Cv.genAt [39] [] (Cv.fold ([10]++(List.range' 40 16)) 5 [4,3,1] (by exact Nat.le_refl _) (by exact Nat.le_of_ble_eq_true rfl) (by rfl) (by cbv) ?_)
            intro js;exact⟨(_,_),⟨0,rfl,by decide,had0.symm⟩,js,rfl⟩
          · rintro⟨k,a⟩ js ⟨u,hk,hu,ha⟩
            by_cases hu12:u=12
            rotate_left
            · have hz:vc .lss k 12=true:=by rw[qc,ko];((try simp only[nc] at *);omega)
              obtain⟨k1,hk1⟩:∃k1:Int,k1=((u+1:Nat):Int):=⟨_,rfl⟩;have ek:vb .add .i64 k 1=k1:=by(try simp only[nc] at *);rw[qb,kh (by omega) (by omega)];omega
              have hmu:12-k1.toNat<12-k.toNat:=by((try simp only[nc] at *);omega)
              have htk:vtoN k=u:=by rw[hk];exact hto u
              by_cases hu2:u<2
              · have hz2:vc .lss k 2=true:=by rw[qc,ko];((try simp only[nc] at *);omega)
                have hadu:=hads u hu2;rw[←ha] at hadu;have hau:=hqr1 u u;rw[←ha] at hau;have hla:vln a=12:=by rw[qln,ha];exact hql1 u
                have hkR:0≤k∧k<(12:Nat):=by((try simp only[nc] at *);omega)
                have hgau:vgd a u=a.getD u 0:=hgd a u;obtain⟨y,hy⟩:∃y,y=a.getD u 0:=⟨_,rfl⟩;rw[←hy] at hgau hadu hau;have ey:vb .add .u32 y 1=y+1:=by rw[qb];exact kbQ (by((try simp only[nc] at *);omega)) (by((try simp only[nc] at *);omega))
                have hst:vst a u (y+1)=AD (u+1):=by rw[qst];exact hadu.symm
                generalize hz3:y+1=y1 at *;clear hads hadn hqr1 hql1;cbv;rw[hz];cbv;rw[g10];cbv;rw[hz2];cbv;rw[htk,hgau,ey,hst,ek];refine⟨⟨hkR⟩,⟨by rw[hadd0,hla];omega⟩,⟨by rw[hla];omega⟩,⟨hkR⟩,⟨by rw[hadd0,hla];omega⟩,⟨by rw[hla];omega⟩,?_⟩
                refine Cv.fold ([10]++(List.range' 40 16)) 5 [4,3,1] (by exact Nat.le_refl _) (by exact Nat.le_of_ble_eq_true rfl) (by rfl) (by cbv) ?_
                intro js;exact⟨(_,_),⟨⟨u+1,hk1,by omega,rfl⟩,hmu⟩,js,rfl⟩
              · have hz2:vc .lss k 2=false:=by rw[qc,kb];((try simp only[nc] at *);omega)
                have hadu:=hadn u hu2;clear hads hadn hqr1 hql1;cbv;rw[hz];cbv;rw[g10];cbv;rw[hz2];cbv;rw[ek];refine Cv.fold ([10]++(List.range' 40 16)) 5 [4,3,1] (by exact Nat.le_refl _) (by exact Nat.le_of_ble_eq_true rfl) (by rfl) (by cbv) ?_
                intro js;exact⟨(_,_),⟨⟨u+1,hk1,by omega,by rw[hadu];exact ha⟩,hmu⟩,js,rfl⟩
            have hz:vc .lss k 12=false:=by rw[qc,kb];((try simp only[nc] at *);omega)
            rw[hu12] at ha;rw[←ha] at hc1 hNil1 hNil2;cbv;rw[hz];cbv;refine ka (ρ:=[(4,.z)]) (hc1 c1) ⟨by rfl,by rfl,by rfl,by cbv;(repeat' first|(refine And.intro ?_ ?_)|exact trivial|exact⟨Nat.le_refl _⟩|exact kd _|exact fun _=>rfl|(simp only[renL3];done)|(show SB.roA _ _ _=SB.roA _ _ _;rfl)|exact funext fun _=>rfl)⟩ ?_
            rintro v H R js1 ⟨rfl,⟨hna1,rfl,rfl⟩|⟨hab1,cs1,hfa1,rfl,rfl⟩⟩
            · cbv
              rw[n20];cbv;rw[l2];cbv;exact⟨[0],.val (.slice none 0 0),[.ro .u8 told],rfl,rfl,rfl,rfl,⟨rfl,trivial⟩,rfl,.inl ⟨rfl,rfl,hNil1 hna1⟩⟩
            · obtain⟨hR1,hI1⟩:=hfi _ _ hfa1
              obtain⟨cn1,hcn1⟩:∃n,n=cs1.length:=⟨_,rfl⟩;have hbx1:=hby cs1 cap cn1 hI1 hR1;rw[←hcn1] at hbx1;rw[←hcn1];cbv;rw[n00];cbv;refine ka (ρ:=[(0,.z),(5,.z)]) hbx1 ⟨by rfl,by rfl,by rfl,by cbv;(repeat' first|(refine And.intro ?_ ?_)|exact trivial|exact⟨Nat.le_refl _⟩|exact kd _|exact fun _=>rfl|(simp only[renL3];done)|(show SB.roA _ _ _=SB.roA _ _ _;rfl)|exact funext fun _=>rfl)⟩ ?_
              rintro v H R js1 ⟨rfl,⟨rfl,rfl,hbn1⟩|⟨b1,e1,hbe1,rfl,rfl,hb11,hb21,hb31⟩⟩
              · cbv
                rw[l2];cbv;exact⟨[0],.val (.slice none 0 0),[.ro .u8 told],rfl,rfl,rfl,rfl,⟨rfl,trivial⟩,rfl,.inl ⟨rfl,rfl,hNil2 cs1 hfa1 hbn1⟩⟩
              · obtain⟨BL1,hBL1⟩:∃B,B=(b1.length:Int)::b1:=⟨_,rfl⟩
                obtain⟨m1,hm1⟩:∃m,m=b1.length+1:=⟨_,rfl⟩;have hlb1:vln BL1=m1:=by rw[qln,hBL1,hm1];rfl
                have hmp1:0<m1:=by omega
                rw[←hBL1,←hm1];rw[←hm1] at hbe1;cbv;rw[l2];cbv;refine⟨⟨by rw[hlb1];exact hmp1⟩,?_⟩
                subst hm1;subst hBL1
                exact⟨[0,6],.slice 1 .z 1 (b1.length+1) e1,[.ro .u8 told,.buf 5 .u8 ((b1.length:Int)::b1) e1],rfl,rfl,rfl,rfl,⟨rfl,rfl,trivial⟩,rfl,.inr ⟨b1,e1,hbe1,rfl,rfl,hb11,hb21,hb31⟩⟩
        · obtain⟨hR0,hI0⟩:=hfi _ _ hfa0
          obtain⟨cn0,hcn0⟩:∃n,n=cs0.length:=⟨_,rfl⟩;have hbx0:=hby cs0 cap cn0 hI0 hR0;rw[←hcn0] at hbx0;rw[←hcn0];cbv;rw[n00];cbv;refine ka (ρ:=[(0,.z),(4,.z)]) hbx0 ⟨by rfl,by rfl,by rfl,by cbv;(repeat' first|(refine And.intro ?_ ?_)|exact trivial|exact⟨Nat.le_refl _⟩|exact kd _|exact fun _=>rfl|(simp only[renL3];done)|(show SB.roA _ _ _=SB.roA _ _ _;rfl)|exact funext fun _=>rfl)⟩ ?_
          rintro v H R js0 ⟨rfl,⟨rfl,rfl,hbn0⟩|⟨b0,e0,hbe0,rfl,rfl,hb10,hb20,hb30⟩⟩
          · cbv
            rw[l1];cbv;rw[x1];refine⟨⟨by decide⟩,⟨by rw[lx];decide⟩,⟨by rw[ad12,hlq];exact Nat.le_refl _⟩,⟨by rw[ln0];exact Nat.le_refl _⟩,⟨by rw[ln0];exact Nat.le_refl _⟩,⟨by rw[ad12];decide⟩,?_⟩
            intro c1 jv1 hle1;have hlz1:12≤c1:=by have:=hle1.out;simp only at this;rw[ad12] at this;exact this
            cbv;rw[hont,ad12,e12];refine kv (α:=Int×List Int) ([10]++(List.range' 40 16)) [5,3,1] (fun(k,a)=>[(39,.int .i64 k)]) (fun(k,a)=>[(5,.buf 128 .u32 a c1)]) (fun(k,a)=>∃i:Nat,k=i∧i≤12∧a=AD i) (fun(k,a)=>12-k.toNat) hw hm ?_ ?_
            · refine Cv.genAt [39] [] (Cv.fold ([10]++(List.range' 40 16)) 6 [5,3,1] (by exact Nat.le_refl _) (by exact Nat.le_of_ble_eq_true rfl) (by rfl) (by cbv) ?_)
              intro js;exact⟨(_,_),⟨0,rfl,by decide,had0.symm⟩,js,rfl⟩
            · rintro⟨k,a⟩ js ⟨u,hk,hu,ha⟩
              by_cases hu12:u=12
              rotate_left
              · have hz:vc .lss k 12=true:=by rw[qc,ko];((try simp only[nc] at *);omega)
                obtain⟨k1,hk1⟩:∃k1:Int,k1=((u+1:Nat):Int):=⟨_,rfl⟩;have ek:vb .add .i64 k 1=k1:=by(try simp only[nc] at *);rw[qb,kh (by omega) (by omega)];omega
                have hmu:12-k1.toNat<12-k.toNat:=by((try simp only[nc] at *);omega)
                have htk:vtoN k=u:=by rw[hk];exact hto u
                by_cases hu2:u<2
                · have hz2:vc .lss k 2=true:=by rw[qc,ko];((try simp only[nc] at *);omega)
                  have hadu:=hads u hu2;rw[←ha] at hadu;have hau:=hqr1 u u;rw[←ha] at hau;have hla:vln a=12:=by rw[qln,ha];exact hql1 u
                  have hkR:0≤k∧k<(12:Nat):=by((try simp only[nc] at *);omega)
                  have hgau:vgd a u=a.getD u 0:=hgd a u;obtain⟨y,hy⟩:∃y,y=a.getD u 0:=⟨_,rfl⟩;rw[←hy] at hgau hadu hau;have ey:vb .add .u32 y 1=y+1:=by rw[qb];exact kbQ (by((try simp only[nc] at *);omega)) (by((try simp only[nc] at *);omega))
                  have hst:vst a u (y+1)=AD (u+1):=by rw[qst];exact hadu.symm
                  generalize hz3:y+1=y1 at *;clear hads hadn hqr1 hql1;cbv;rw[hz];cbv;rw[g10];cbv;rw[hz2];cbv;rw[htk,hgau,ey,hst,ek];refine⟨⟨hkR⟩,⟨by rw[hadd0,hla];omega⟩,⟨by rw[hla];omega⟩,⟨hkR⟩,⟨by rw[hadd0,hla];omega⟩,⟨by rw[hla];omega⟩,?_⟩
                  refine Cv.fold ([10]++(List.range' 40 16)) 6 [5,3,1] (by exact Nat.le_refl _) (by exact Nat.le_of_ble_eq_true rfl) (by rfl) (by cbv) ?_
                  intro js;exact⟨(_,_),⟨⟨u+1,hk1,by omega,rfl⟩,hmu⟩,js,rfl⟩
                · have hz2:vc .lss k 2=false:=by rw[qc,kb];((try simp only[nc] at *);omega)
                  have hadu:=hadn u hu2;clear hads hadn hqr1 hql1;cbv;rw[hz];cbv;rw[g10];cbv;rw[hz2];cbv;rw[ek];refine Cv.fold ([10]++(List.range' 40 16)) 6 [5,3,1] (by exact Nat.le_refl _) (by exact Nat.le_of_ble_eq_true rfl) (by rfl) (by cbv) ?_
                  intro js;exact⟨(_,_),⟨⟨u+1,hk1,by omega,by rw[hadu];exact ha⟩,hmu⟩,js,rfl⟩
              have hz:vc .lss k 12=false:=by rw[qc,kb];((try simp only[nc] at *);omega)
              rw[hu12] at ha;rw[←ha] at hc1 hNil1 hNil2;cbv;rw[hz];cbv;refine ka (ρ:=[(5,.z)]) (hc1 c1) ⟨by rfl,by rfl,by rfl,by cbv;(repeat' first|(refine And.intro ?_ ?_)|exact trivial|exact⟨Nat.le_refl _⟩|exact kd _|exact fun _=>rfl|(simp only[renL3];done)|(show SB.roA _ _ _=SB.roA _ _ _;rfl)|exact funext fun _=>rfl)⟩ ?_
              rintro v H R js1 ⟨rfl,⟨hna1,rfl,rfl⟩|⟨hab1,cs1,hfa1,rfl,rfl⟩⟩
              · cbv
                rw[n20];cbv;rw[l2];cbv;exact⟨[0],.val (.slice none 0 0),[.ro .u8 told],rfl,rfl,rfl,rfl,⟨rfl,trivial⟩,rfl,.inl ⟨rfl,rfl,hNil1 hna1⟩⟩
              · obtain⟨hR1,hI1⟩:=hfi _ _ hfa1
                obtain⟨cn1,hcn1⟩:∃n,n=cs1.length:=⟨_,rfl⟩;have hbx1:=hby cs1 cap cn1 hI1 hR1;rw[←hcn1] at hbx1;rw[←hcn1];cbv;rw[n00];cbv;refine ka (ρ:=[(0,.z),(6,.z)]) hbx1 ⟨by rfl,by rfl,by rfl,by cbv;(repeat' first|(refine And.intro ?_ ?_)|exact trivial|exact⟨Nat.le_refl _⟩|exact kd _|exact fun _=>rfl|(simp only[renL3];done)|(show SB.roA _ _ _=SB.roA _ _ _;rfl)|exact funext fun _=>rfl)⟩ ?_
                rintro v H R js1 ⟨rfl,⟨rfl,rfl,hbn1⟩|⟨b1,e1,hbe1,rfl,rfl,hb11,hb21,hb31⟩⟩
                · cbv
                  rw[l2];cbv;exact⟨[0],.val (.slice none 0 0),[.ro .u8 told],rfl,rfl,rfl,rfl,⟨rfl,trivial⟩,rfl,.inl ⟨rfl,rfl,hNil2 cs1 hfa1 hbn1⟩⟩
                · obtain⟨BL1,hBL1⟩:∃B,B=(b1.length:Int)::b1:=⟨_,rfl⟩
                  obtain⟨m1,hm1⟩:∃m,m=b1.length+1:=⟨_,rfl⟩;have hlb1:vln BL1=m1:=by rw[qln,hBL1,hm1];rfl
                  have hmp1:0<m1:=by omega
                  rw[←hBL1,←hm1];rw[←hm1] at hbe1;cbv;rw[l2];cbv;refine⟨⟨by rw[hlb1];exact hmp1⟩,?_⟩
                  subst hm1;subst hBL1
                  exact⟨[0,7],.slice 1 .z 1 (b1.length+1) e1,[.ro .u8 told,.buf 5 .u8 ((b1.length:Int)::b1) e1],rfl,rfl,rfl,rfl,⟨rfl,rfl,trivial⟩,rfl,.inr ⟨b1,e1,hbe1,rfl,rfl,hb11,hb21,hb31⟩⟩
          · obtain⟨BL0,hBL0⟩:∃B,B=(b0.length:Int)::b0:=⟨_,rfl⟩
            obtain⟨m0,hm0⟩:∃m,m=b0.length+1:=⟨_,rfl⟩;have hlb0:vln BL0=m0:=by rw[qln,hBL0,hm0];rfl
            have hmp0:0<m0:=by omega
            rw[←hBL0,←hm0];rw[←hm0] at hbe0;cbv;rw[l1];cbv;refine⟨⟨by rw[hlb0];exact hmp0⟩,?_⟩
            rw[x1];refine⟨⟨by decide⟩,⟨by rw[lx];decide⟩,⟨by rw[ad12,hlq];exact Nat.le_refl _⟩,⟨by rw[ln0];exact Nat.le_refl _⟩,⟨by rw[ln0];exact Nat.le_refl _⟩,⟨by rw[ad12];decide⟩,?_⟩
            intro c1 jv1 hle1;have hlz1:12≤c1:=by have:=hle1.out;simp only at this;rw[ad12] at this;exact this
            cbv;rw[hont,ad12,e12];refine kv (α:=Int×List Int) ([10]++(List.range' 40 16)) [6,3,1] (fun(k,a)=>[(39,.int .i64 k)]) (fun(k,a)=>[(6,.buf 128 .u32 a c1)]) (fun(k,a)=>∃i:Nat,k=i∧i≤12∧a=AD i) (fun(k,a)=>12-k.toNat) hw hm ?_ ?_
            · refine Cv.genAt [39] [] (Cv.fold ([10]++(List.range' 40 16)) 7 [6,3,1] (by exact Nat.le_refl _) (by exact Nat.le_of_ble_eq_true rfl) (by rfl) (by cbv) ?_)
              intro js;exact⟨(_,_),⟨0,rfl,by decide,had0.symm⟩,js,rfl⟩
            · rintro⟨k,a⟩ js ⟨u,hk,hu,ha⟩
              by_cases hu12:u=12
              rotate_left
              · have hz:vc .lss k 12=true:=by rw[qc,ko];((try simp only[nc] at *);omega)
                obtain⟨k1,hk1⟩:∃k1:Int,k1=((u+1:Nat):Int):=⟨_,rfl⟩;have ek:vb .add .i64 k 1=k1:=by(try simp only[nc] at *);rw[qb,kh (by omega) (by omega)];omega
                have hmu:12-k1.toNat<12-k.toNat:=by((try simp only[nc] at *);omega)
                have htk:vtoN k=u:=by rw[hk];exact hto u
                by_cases hu2:u<2
                · have hz2:vc .lss k 2=true:=by rw[qc,ko];((try simp only[nc] at *);omega)
                  have hadu:=hads u hu2;rw[←ha] at hadu;have hau:=hqr1 u u;rw[←ha] at hau;have hla:vln a=12:=by rw[qln,ha];exact hql1 u
                  have hkR:0≤k∧k<(12:Nat):=by((try simp only[nc] at *);omega)
                  have hgau:vgd a u=a.getD u 0:=hgd a u;obtain⟨y,hy⟩:∃y,y=a.getD u 0:=⟨_,rfl⟩;rw[←hy] at hgau hadu hau;have ey:vb .add .u32 y 1=y+1:=by rw[qb];exact kbQ (by((try simp only[nc] at *);omega)) (by((try simp only[nc] at *);omega))
                  have hst:vst a u (y+1)=AD (u+1):=by rw[qst];exact hadu.symm
                  generalize hz3:y+1=y1 at *;clear hads hadn hqr1 hql1;cbv;rw[hz];cbv;rw[g10];cbv;rw[hz2];cbv;rw[htk,hgau,ey,hst,ek];refine⟨⟨hkR⟩,⟨by rw[hadd0,hla];omega⟩,⟨by rw[hla];omega⟩,⟨hkR⟩,⟨by rw[hadd0,hla];omega⟩,⟨by rw[hla];omega⟩,?_⟩
                  refine Cv.fold ([10]++(List.range' 40 16)) 7 [6,3,1] (by exact Nat.le_refl _) (by exact Nat.le_of_ble_eq_true rfl) (by rfl) (by cbv) ?_
                  intro js;exact⟨(_,_),⟨⟨u+1,hk1,by omega,rfl⟩,hmu⟩,js,rfl⟩
                · have hz2:vc .lss k 2=false:=by rw[qc,kb];((try simp only[nc] at *);omega)
                  have hadu:=hadn u hu2;clear hads hadn hqr1 hql1;cbv;rw[hz];cbv;rw[g10];cbv;rw[hz2];cbv;rw[ek];refine Cv.fold ([10]++(List.range' 40 16)) 7 [6,3,1] (by exact Nat.le_refl _) (by exact Nat.le_of_ble_eq_true rfl) (by rfl) (by cbv) ?_
                  intro js;exact⟨(_,_),⟨⟨u+1,hk1,by omega,by rw[hadu];exact ha⟩,hmu⟩,js,rfl⟩
              have hz:vc .lss k 12=false:=by rw[qc,kb];((try simp only[nc] at *);omega)
              rw[hu12] at ha;rw[←ha] at hc1 hNil1 hNil2;cbv;rw[hz];cbv;refine ka (ρ:=[(6,.z)]) (hc1 c1) ⟨by rfl,by rfl,by rfl,by cbv;(repeat' first|(refine And.intro ?_ ?_)|exact trivial|exact⟨Nat.le_refl _⟩|exact kd _|exact fun _=>rfl|(simp only[renL3];done)|(show SB.roA _ _ _=SB.roA _ _ _;rfl)|exact funext fun _=>rfl)⟩ ?_
              rintro v H R js1 ⟨rfl,⟨hna1,rfl,rfl⟩|⟨hab1,cs1,hfa1,rfl,rfl⟩⟩
              · cbv
                rw[n20];cbv;rw[l2];cbv;subst hm0;subst hBL0
                exact⟨[0,5],.slice 1 .z 1 (b0.length+1) e0,[.ro .u8 told,.buf 5 .u8 ((b0.length:Int)::b0) e0],rfl,rfl,rfl,rfl,⟨rfl,rfl,trivial⟩,rfl,.inr ⟨b0,e0,hbe0,rfl,rfl,hb10,hb20,hb30⟩⟩
              · obtain⟨hR1,hI1⟩:=hfi _ _ hfa1
                obtain⟨cn1,hcn1⟩:∃n,n=cs1.length:=⟨_,rfl⟩;have hbx1:=hby cs1 cap cn1 hI1 hR1;rw[←hcn1] at hbx1;rw[←hcn1];cbv;rw[n00];cbv;refine ka (ρ:=[(0,.z),(7,.z)]) hbx1 ⟨by rfl,by rfl,by rfl,by cbv;(repeat' first|(refine And.intro ?_ ?_)|exact trivial|exact⟨Nat.le_refl _⟩|exact kd _|exact fun _=>rfl|(simp only[renL3];done)|(show SB.roA _ _ _=SB.roA _ _ _;rfl)|exact funext fun _=>rfl)⟩ ?_
                rintro v H R js1 ⟨rfl,⟨rfl,rfl,hbn1⟩|⟨b1,e1,hbe1,rfl,rfl,hb11,hb21,hb31⟩⟩
                · cbv
                  rw[l2];cbv;subst hm0;subst hBL0
                  exact⟨[0,5],.slice 1 .z 1 (b0.length+1) e0,[.ro .u8 told,.buf 5 .u8 ((b0.length:Int)::b0) e0],rfl,rfl,rfl,rfl,⟨rfl,rfl,trivial⟩,rfl,.inr ⟨b0,e0,hbe0,rfl,rfl,hb10,hb20,hb30⟩⟩
                · obtain⟨BL1,hBL1⟩:∃B,B=(b1.length:Int)::b1:=⟨_,rfl⟩
                  obtain⟨m1,hm1⟩:∃m,m=b1.length+1:=⟨_,rfl⟩;have hlb1:vln BL1=m1:=by rw[qln,hBL1,hm1];rfl
                  have hmp1:0<m1:=by omega
                  rw[←hBL1,←hm1];rw[←hm1] at hbe1;cbv;refine⟨⟨by rw[hlb1];exact hmp1⟩,⟨by rw[hlb0];exact hmp0⟩,?_⟩
                  generalize hzz:vc .lss (vofN m1) (vofN m0)=zz;cases zz
                  · cbv
                    rw[l2];cbv;subst hm0;subst hBL0
                    exact⟨[0,5],.slice 1 .z 1 (b0.length+1) e0,[.ro .u8 told,.buf 5 .u8 ((b0.length:Int)::b0) e0],rfl,rfl,rfl,rfl,⟨rfl,rfl,trivial⟩,rfl,.inr ⟨b0,e0,hbe0,rfl,rfl,hb10,hb20,hb30⟩⟩
                  · cbv
                    rw[l2];cbv;subst hm1;subst hBL1
                    exact⟨[0,8],.slice 1 .z 1 (b1.length+1) e1,[.ro .u8 told,.buf 5 .u8 ((b1.length:Int)::b1) e1],rfl,rfl,rfl,rfl,⟨rfl,rfl,trivial⟩,rfl,.inr ⟨b1,e1,hbe1,rfl,rfl,hb11,hb21,hb31⟩⟩
set_option maxRecDepth 10000
end Go.Proofs.Ytlclleihoampdaa
