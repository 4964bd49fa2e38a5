import Derived.Test.YtlclleihoampdaaA1
import Derived.Test.YtlclleihoampdaaA2
import Derived.Test.YtlclleihoampdaaED
set_option linter.unusedVariables false
set_option linter.unusedSimpArgs false
namespace Go.Proofs.Ytlclleihoampdaa
open Go Go.Sx
end Go.Proofs.Ytlclleihoampdaa
namespace Go.Proofs.Ytlclleihoampdaa
open Go Go.Sx Go.Proofs
set_option maxRecDepth 10000
set_option maxHeartbeats 40000000
theorem keC (b:List Int) (cap:Nat) (ml ms:Int) (hby:∀x∈b,isByte x) (hl:b.length≤140737488355328) (hml : -9223372036854775808≤ml∧ml≤9223372036854775807) (hms : -9223372036854775808≤ms∧ms≤9223372036854775807)
  (cs0:List Int) (log0 used0:Int) (hR:j4 b ml ms=(cs0,log0,used0,0)) :
  Con Try.prog 70 [.slice 0 .z 1 b.length cap,.int .i64 ml,.int .i64 ms] [.ro .u8 b] (fun v H R=>R=[]∧∃c,v=.tup [.slice 1 .z 1 cs0.length c,.int .i64 log0,.int .i64 used0,.int .i64 0]∧H=[.ro .u8 b,.buf 124 .i16 cs0 c]):=by
 have h:Con Try.prog 70 [.slice 0 .z 1 b.length cap,.int .i64 ml,.int .i64 ms] [.ro .u8 b] (fun v H R=>R=[]∧∃c c0 acc hv ai,v=.tup [.slice 5 .z 1 cs0.length c,.int .i64 log0,.int .i64 used0,.int .i64 0] ∧
   H=[.ro .u8 b,.buf 5 .u8 b c0,.one 25 [.slice 1 .z 1 b.length c0],.one 3 [.int .i64 ai],.one 215 [.fn 121 [.ptr 3 .z 1 0,.ptr 2 .z 1 0],.int .u64 acc,.int .i64 hv,.fn 122 [.ptr 2 .z 1 0,.ptr 3 .z 1 0]],.buf 124 .i16 cs0 c]):=by
  refine kf (kw 6 (by simp) (kg ((kix b cap ml ms hby hl hml hms cs0 log0 used0 0 hR).mono ?_)))
  rintro v H R ⟨h1,h2,h3,⟨h4,_⟩|⟨_,h5,c,c0,acc,hv,ai,h6,h7⟩⟩
  ·exact absurd rfl h4
  ·exact⟨h5,h1,c,c0,acc,hv,ai,h6,h7⟩
 refine kih [0,5] rfl rfl (h.mono ?_)
 rintro v H R ⟨rfl,c,c0,acc,hv,ai,rfl,rfl⟩;exact⟨.tup [.slice 1 .z 1 cs0.length c,.int .i64 log0,.int .i64 used0,.int .i64 0],[.ro .u8 b,.buf 124 .i16 cs0 c],rfl,rfl,⟨rfl,rfl,trivial⟩,rfl,c,rfl,rfl⟩
theorem kdj (b:List Int) (cap:Nat) (ml ms:Int) (hby:∀x∈b,isByte x) (hl:b.length≤140737488355328) (hml : -9223372036854775808≤ml∧ml≤9223372036854775807) (hms : -9223372036854775808≤ms∧ms≤9223372036854775807)
  (cs0:List Int) (log0 used0 e0:Int) (hR:j4 b ml ms=(cs0,log0,used0,e0)) (he:e0≠0) :
  Con Try.prog 70 [.slice 0 .z 1 b.length cap,.int .i64 ml,.int .i64 ms] [.ro .u8 b] (fun v H R=>R=[]∧v=.tup [.val (.slice none 0 0),.int .i64 0,.int .i64 0,.int .i64 e0]∧H=[.ro .u8 b]):=by
 refine kf (kw 1 (by simp) (kg ((kix b cap ml ms hby hl hml hms cs0 log0 used0 e0 hR).mono ?_)))
 rintro v H R ⟨h1,h2,h3,⟨_,h4⟩|⟨h4,_⟩⟩
 ·exact⟨h2,h1,h4,h3⟩
 ·exact absurd h4 he
theorem kdk {b:List Int} {pos n:Nat} {x:Int} (h:rdN b pos n=some x):pos+n≤8*b.length∧0≤x∧x<2^n:=by
 unfold rdN at h;split at h
 ·rename_i hp;have:=qh (jw b) (ka0 b) pos n;rw[Option.some.injEq] at h;exact⟨hp,by omega,by omega⟩
 ·cases h
theorem kjG {b:List Int} {pos pos':Nat} {most v x:Int} (hm:2≤most∧most≤4097) (hr:rdN b pos (kW most-1).toNat=some v) (h:kfQ b pos most v=some (x,pos')):0≤x∧x≤8192∧pos'≤8*b.length:=by
 obtain⟨h1,h2,h3⟩:=kdk hr;obtain⟨k,hk,hk1,hk2⟩:=qE (x:=most) (by omega);have e1:(kW most-1).toNat=k:=by omega
 have e2:(kW most).toNat=k+1:=by omega
 have hp:(2:Int)^(k+1)=2^k*2:=Int.pow_succ _ _;rw[e1] at h1 h3;unfold kfQ at h;rw[e1,e2,hp] at h;split at h
 ·split at h
  ·cases h
  ·rename_i top ht;have h4:=(kdk ht).1;simp only[Option.some.injEq,Prod.mk.injEq] at h;obtain⟨h5,h6⟩:=h;split at h5
   ·omega
   ·omega
 ·simp only[Option.some.injEq,Prod.mk.injEq] at h;omega
theorem kb0 (b:List Int) (ms:Int):∀(f:Nat) (fl:Bool) (left:Int) (cs:List Int) (pos:Nat) (cs':List Int) (pos':Nat),left≤4096→(∀c∈cs,jP c)→pos≤8*b.length →
  readS b ms f fl left cs pos=(0,cs',pos')→(∀c∈cs',jP c)∧pos'≤8*b.length
 |0,fl,left,cs,pos,cs',pos',h1,h2,h3,h=>by
  simp only[readS,Prod.mk.injEq] at h;obtain⟨_,rfl,rfl⟩:=h;exact⟨h2,h3⟩
 | f+1,false,left,cs,pos,cs',pos',h1,h2,h3,h=>by
  rw[readS] at h;split at h
  ·simp only[Prod.mk.injEq] at h;obtain⟨_,rfl,rfl⟩:=h;exact⟨h2,h3⟩
  rename_i hl0;split at h
  ·simp at h
  split at h
  ·simp at h
  rename_i v hv;split at h
  ·simp at h
  rename_i x p2 hx;obtain⟨h4,h5,h6⟩:=kjG (by omega) hv hx;have hcs:∀c∈cs++[x-1],jP c:=fun c hc=>(List.mem_append.1 hc).elim (h2 c) (fun e=>by rw[List.mem_singleton.1 e];unfold jP;omega)
  have hpn:0≤kU (x-1):=by unfold kU;split<;>omega
  split at h
  ·exact kb0 b ms f false _ _ _ cs' pos' (by omega) hcs h6 h
  ·split at h
   ·simp at h
   ·exact kb0 b ms f true _ _ _ cs' pos' (by omega) hcs h6 h
 |f+1,true,left,cs,pos,cs',pos',h1,h2,h3,h=>by
  rw[readS] at h;split at h
  ·simp at h
  rename_i n hn;have h4:=(kdk hn).1;have hcs:∀c∈cs++List.replicate n.toNat 0,jP c:=fun c hc=>(List.mem_append.1 hc).elim (h2 c) (fun e=>by rw[(List.mem_replicate.1 e).2];unfold jP;omega)
  split at h
  ·simp at h
  split at h
  ·exact kb0 b ms f true _ _ _ cs' pos' h1 hcs h4 h
  ·exact kb0 b ms f false _ _ _ cs' pos' h1 hcs h4 h
theorem kb1 {b cs:List Int} {ml ms log used:Int} (h:j4 b ml ms=(cs,log,used,0)):(∀c∈cs,jP c)∧0≤used∧used≤b.length∧5≤log∧log≤12:=by
 unfold j4 at h;split at h
 ·simp at h
 rename_i hml;split at h
 ·simp at h
 rename_i x hx;obtain⟨h1,h2,h3⟩:=kdk hx;split at h
 ·simp at h
 rename_i hxm;split at h
 ·simp only[Prod.mk.injEq] at h;rename_i he;exact absurd h.2.2.2 he
 rename_i he;simp only[Prod.mk.injEq] at h;obtain⟨rfl,rfl,rfl,_⟩:=h;have hpl:=kez (log:=x+5) (by omega);have:=kb0 b ms 600 false _ [] 4 _ _ hpl.2 (by simp) (by omega) (show readS b ms 600 false (2^(x+5).toNat) [] 4=(0,(readS b ms 600 false (2^(x+5).toNat) [] 4).2.1,(readS b ms 600 false (2^(x+5).toNat) [] 4).2.2) by
  rw[show(0:Int)=(readS b ms 600 false (2^(x+5).toNat) [] 4).1 by rw[Decidable.not_not.1 he]])
 refine⟨this.1,?_,?_,by omega,by omega⟩
 ·have:=this.2;omega
 ·have:=this.2;omega
end Go.Proofs.Ytlclleihoampdaa
