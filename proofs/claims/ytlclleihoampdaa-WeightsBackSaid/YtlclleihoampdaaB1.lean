import Derived.Test.YtlclleihoampdaaFC
import Derived.Test.YtlclleihoampdaaFX
set_option linter.unusedVariables false
set_option linter.unusedSimpArgs false
namespace Go.Proofs.Ytlclleihoampdaa
open Go Go.Sx Go.Proofs
theorem kD:Try.prog.follows .mixedOrders=true:=by kernel_rfl
end Go.Proofs.Ytlclleihoampdaa
namespace Go.Proofs.Ytlclleihoampdaa
open Go Go.Sx
def kK (l:List Int):Nat→Nat→Int
 |_,0=>0
 |i,n+1=>kK l i n+l.getD (i+n) 0*2^n
def pack (bs:List Int):List Int:=(List.range ((bs.length+7) / 8)).map fun i=>kK bs (8*i) 8
def kr (x:Int) (n:Nat):List Int:=(List.range n).map fun k=>x / 2^k % 2
def kT (b:Int):Prop:=b=0∨b=1
theorem kF (bs:List Int):(pack bs).length=(bs.length+7) / 8:=by simp[pack]
theorem jd (l:List Int) (h:∀b∈l,kT b) (i:Nat):∀n,0≤kK l i n∧kK l i n<2^n
 |0=>by simp[kK]
 | n+1=>by
  obtain⟨h0,h1⟩:=jd l h i n;have hb:l.getD (i+n) 0=0∨l.getD (i+n) 0=1:=by
   rw[List.getD_eq_getElem?_getD];cases hg:l[i+n]? with
   |none=>left;rfl
   |some b=>exact h b (List.mem_of_getElem? hg)
  have hp:(2:Int)^(n+1)=2^n+2^n:=by rw[Int.pow_succ];omega
  simp only[kK];rcases hb with hb|hb<;>rw[hb,hp]<;>constructor<;>omega
theorem kdf (bs:List Int) (b:Int) (i:Nat):∀n,kK (bs++[b]) i n=kK bs i n+(if i≤bs.length∧bs.length<i+n then b*2^(bs.length-i) else 0)
 |0=>by
  simp only[kK];rw[if_neg (by omega)];rfl
 | n+1=>by
  simp only[kK];rw[kdf bs b i n];rcases Nat.lt_trichotomy (i+n) bs.length with h|h|h
  ·have e:(bs++[b]).getD (i+n) 0=bs.getD (i+n) 0:=by
    simp[List.getD_eq_getElem?_getD,List.getElem?_append_left h]
   rw[e,if_neg (by omega),if_neg (by omega)];omega
  ·have e:(bs++[b]).getD (i+n) 0=b:=by
    rw[h];simp[List.getD_eq_getElem?_getD]
   have e0:bs.getD (i+n) 0=0:=by
    rw[h];simp[List.getD_eq_getElem?_getD]
   rw[e,e0,if_neg (by omega),if_pos (by omega)];have:bs.length-i=n:=by omega
   rw[this];omega
  ·have e:(bs++[b]).getD (i+n) 0=0:=by
    simp[List.getD_eq_getElem?_getD,List.getElem?_eq_none (show(bs++[b]).length≤i+n by simp;omega)]
   have e0:bs.getD (i+n) 0=0:=by
    simp[List.getD_eq_getElem?_getD,List.getElem?_eq_none (show bs.length≤i+n by omega)]
   rw[e,e0];by_cases hc:i≤bs.length∧bs.length<i+n
   ·rw[if_pos hc,if_pos (by omega)];omega
   ·rw[if_neg hc,if_neg (by omega)];omega
theorem kbH (bs:List Int) (i:Nat) (h:bs.length≤i):∀n,kK bs i n=0
 |0=>rfl
 |n+1=>by
  simp only[kK];rw[kbH bs i h n];simp[List.getD_eq_getElem?_getD,List.getElem?_eq_none (show bs.length≤i+n by omega)]
theorem kkG (bs:List Int) (b:Int):pack (bs++[b]) =
  (if bs.length % 8=0 then pack bs++[0] else pack bs).set (bs.length / 8) ((if bs.length % 8=0 then pack bs++[0] else pack bs).getD (bs.length / 8) 0+b*2^(bs.length % 8)):=by
 have hl:(if bs.length % 8=0 then pack bs++[0] else pack bs).length=(bs.length+1+7) / 8:=by
  split<;>simp[kF]<;>omega
 have hg:∀i,i<(bs.length+1+7) / 8→(if bs.length % 8=0 then pack bs++[0] else pack bs)[i]?=some (kK bs (8*i) 8):=by
  intro i hi;split
  ·rename_i h8;by_cases hlt:i<(bs.length+7) / 8
   ·rw[List.getElem?_append_left (by rw[kF];exact hlt)];simp[pack,hlt]
   ·have:i=(pack bs).length:=by rw[kF];omega
    rw[this];simp
    rw[kbH bs _ (by rw[kF];omega)]
  ·rename_i h8;have hlt:i<(bs.length+7) / 8:=by omega
   simp[pack,hlt]
 refine List.ext_getElem? fun i=>?_
 by_cases hi:i<(bs.length+1+7) / 8
 ·rw[List.getElem?_set];have hL:(pack (bs++[b]))[i]?=some (kK (bs++[b]) (8*i) 8):=by
   have:i<((bs++[b]).length+7) / 8:=by simpa using hi
   simp only[pack,List.getElem?_map,List.getElem?_range this,Option.map_some]
  rw[hL,kdf];by_cases he:bs.length / 8=i
  ·subst he;rw[if_pos (show 8*(bs.length / 8)≤bs.length∧bs.length<8*(bs.length / 8)+8 by omega),if_pos rfl,if_pos (by rw[hl];exact hi),List.getD_eq_getElem?_getD,hg _ hi];have:bs.length-8*(bs.length / 8)=bs.length % 8:=by omega
   simp[this]
  ·rw[if_neg he,hg i hi,if_neg (by omega)];simp
 ·rw[List.getElem?_eq_none (by rw[kF];simp;omega),List.getElem?_eq_none (by rw[List.length_set,hl];omega)]
theorem keJ (x:Int) (n:Nat):kr x (n+1)=kr x n++[x / 2^n % 2]:=by
 simp[kr,List.range_succ]
theorem kg (x:Int) (n:Nat):(kr x n).length=n:=by simp[kr]
theorem kaU (x:Int):kr x 0=[]:=rfl
theorem kdg (x:Int):kT (x % 2):=by unfold kT;omega
theorem kX (x:Int) (n:Nat):∀b∈kr x n,kT b:=by
 intro b hb;obtain⟨k,_,rfl⟩:=List.mem_map.1 hb;exact kdg _
theorem kdh (bs:List Int) (i k:Nat) (h:bs.length≤i+k):∀n,k≤n→kK bs i n=kK bs i k
 |0,hn=>by rw[Nat.le_zero.1 hn]
 | n+1,hn=>by
  by_cases he:k=n+1
  ·rw[he]
  ·simp only[kK];rw[kdh bs i k h n (by omega)];simp[List.getD_eq_getElem?_getD,List.getElem?_eq_none (show bs.length≤i+n by omega)]
def room (bs:List Int):List Int:=if bs.length % 8=0 then pack bs++[0] else pack bs
theorem kdF (bs:List Int):(room bs).length=bs.length / 8+1:=by
 unfold room;split<;>simp[kF]<;>omega
theorem kkH (bs:List Int):(room bs).getD (bs.length / 8) 0=kK bs (8*(bs.length / 8)) 8:=by
 unfold room;rw[List.getD_eq_getElem?_getD];split
 ·rename_i h8;have:bs.length / 8=(pack bs).length:=by rw[kF];omega
  rw[this];simp
  rw[kbH bs _ (by rw[kF];omega)]
 ·rename_i h8;have hlt:bs.length / 8<(bs.length+7) / 8:=by omega
  simp[pack,hlt]
theorem kiY (bs:List Int) (hb:∀b∈bs,kT b):0≤(room bs).getD (bs.length / 8) 0∧(room bs).getD (bs.length / 8) 0<2^(bs.length % 8):=by
 rw[kkH,kdh bs _ (bs.length % 8) (by omega) 8 (by omega)];exact jd bs hb _ _
theorem kiZ {i:Nat} (h:i<8):(2:Int)^i≤128:=by
 have:i=0∨i=1∨i=2∨i=3∨i=4∨i=5∨i=6∨i=7:=by omega
 rcases this with rfl|rfl|rfl|rfl|rfl|rfl|rfl|rfl<;>decide
theorem kfA (bs:List Int) (b m:Int) (hb:∀b∈bs,kT b) (hbit:kT b) (hm:m=bs.length) :
  (room bs).set (m / 8).toNat (bV .or .u8 ((room bs).getD (m / 8).toNat 0) (bV .shl .u8 b (m % 8)))=pack (bs++[b]):=by
 have e1:(m / 8).toNat=bs.length / 8:=by omega
 have e2:(m % 8).toNat=bs.length % 8:=by omega
 obtain⟨h0,h1⟩:=kiY bs hb;have hp:=kiZ (show bs.length % 8<8 by omega);have hp0:(0:Int)<2^(bs.length % 8):=Int.pow_pos (by decide);have hb2:0≤b∧b*2^(bs.length % 8)≤2^(bs.length % 8)∧0≤b*2^(bs.length % 8):=by
  rcases hbit with rfl|rfl<;>omega
 rw[e1,keC rfl hb2.1 (by show m % 8≤((8:Nat):Int);omega) (by rw[e2];show _<(2:Int)^8;omega),e2,kgd rfl _ h0 h1 hb2.1 (by show _<(2:Int)^8;omega),kkG];rfl
end Go.Proofs.Ytlclleihoampdaa
namespace Go.Proofs.Ytlclleihoampdaa
open Go Go.Sx Go.Proofs
set_option maxHeartbeats 2000000 in
theorem kge (bs:List Int) (c:Nat) (x:Int) (n:Nat) (hn:n≤56) (hx:0≤x∧x<2^64) (hb:∀b∈bs,kT b) (hl:bs.length≤2^40) :
  Con Try.prog 29 [.ptr 0 .z 2 0,.int .u64 x,.int .i64 n] [.one 71 [.slice 1 .z 1 (pack bs).length c,.int .i64 bs.length],.buf 5 .u8 (pack bs) c]
   (fun v H R=>v=.lit .i64 0∧R=[1]∧∃c',H=[.one 71 [.slice 1 .z 1 (pack (bs++kr x n)).length c',.int .i64 (bs++kr x n).length],.buf 5 .u8 (pack (bs++kr x n)) c']):=by
 refine kV 2 (by simp) (jJ [1] (kl kD koE ?_))
 intro vb vc vw vtoN _ vaddN _ _ _ _ _ _ vln _ vsub vonto _ _ _ vnotB _ hw qb qc qw _ _ qaddN _ _ _ _ _ qst _ _ _ _ _ _ _ _ _;have hm:=kD;have f36:=kpe;have f42:=kpm;generalize Try.prog=P at *;generalize hl0:pack bs=l0;generalize hm0:(bs.length:Int)=m0;generalize hn0:(n:Int)=n0;generalize hlen0:l0.length=len0;cbv;have e1:vc .lss n0 0=false:=by subst_vars;try simp only[nc] at *;simp[cV]
 have e2:vc .gtr n0 56=false:=by subst_vars;try simp only[nc] at *;simp[cV];omega
 rw[e1];cbv;rw[e2];cbv;refine kat hw hm f36 (by rfl) ?_
 cbv;intro js;refine kaP (by rfl) (by rfl) (by cbv) (by cbv) (by rfl) ?_
 refine kat hw hm f42 (by rfl) ?_
 cbv;refine kv (α:=Int×Int×List Int×Nat×Nat) [4,7,8,9,10,11,12,13,14,15,16,17,18,19] [1]
  (fun(k,mk,l,len,c)=>[(6,.int .i64 k)]) (fun(k,mk,l,len,c)=>[(0,.one 71 [.slice 1 .z 1 len c,.int .i64 mk]),(1,.buf 5 .u8 l c)])
  (fun(k,mk,l,len,c)=>∃i:Nat,k=i∧i≤n∧mk=(bs++kr x i).length∧l=pack (bs++kr x i)∧len=l.length) (fun(k,_)=>n-k.toNat) hw hm ?_ ?_
 ·refine Cv.genAt [6] [] (Cv.fold [4,7,8,9,10,11,12,13,14,15,16,17,18,19] 7 [1] (by exact Nat.le_refl _) (by exact Nat.le_refl _) (by rfl) (by cbv) ?_)
  intro js;refine⟨(_,_,_,_,_),?_,js,rfl⟩
  refine⟨0,rfl,by omega,?_,?_,?_⟩
  ·subst_vars;try simp only[nc] at *;simp[kaU]
  ·subst_vars;try simp only[nc] at *;simp[kaU]
  ·exact hlen0.symm
 ·rintro⟨k,mk,l,len,c⟩ js ⟨i,hk,hi,hmk,hl',hlen⟩;have hbs:∀b∈bs++kr x i,kT b:=fun b h=>(List.mem_append.1 h).elim (hb b) (kX x i b)
  have hlb:(bs++kr x i).length≤2^40+56:=by simp[kg];omega
  generalize hBS:bs++kr x i=BS at *;have hll:l.length=(BS.length+7) / 8:=by rw[hl',kF]
  cbv;split
  ·rename_i hlt;have hlt:i<n:=by subst_vars;try simp only[nc] at *;simpa [cV] using hlt
   have hcv:vw .u64 k=k:=by subst_vars;try simp only[nc] at *;exact wrap_u64 (by omega) (by omega)
   have hbit:vw .u8 (vb .and .u64 (vb .shr .u64 x (vw .u64 k)) 1)=x / 2^i % 2:=by
    subst_vars
    try simp only[nc] at *
    rw[hcv,kb9 (by show(i:Int)≤((64:Nat):Int);omega)];have h1:0≤x / 2^i:=Int.ediv_nonneg hx.1 (Int.le_of_lt (Int.pow_pos (by decide)));have h2:x / 2^i≤x:=Int.ediv_le_self _ hx.1;rw[Int.toNat_natCast,and_one rfl h1 (by show _<(2:Int)^64;omega)];exact wrap_u8 (by omega) (by omega)
   generalize hbb:x / 2^i % 2=bit at *;have hbi:kT bit:=by rw[←hbb];exact kdg _
   have hnext:bs++kr x (i+1)=BS++[bit]:=by rw[keJ,←List.append_assoc,hBS,hbb]
   have hrem:vb .rem .i64 mk 8=mk % 8:=by subst_vars;try simp only[nc] at *;exact kcD (by omega)
   have hquo:vtoN (vb .quo .i64 mk 8)=BS.length / 8:=by
    subst_vars
    try simp only[nc] at *
    rw[j6 (by omega) (by omega) (by omega)];show Int.toNat _=_
    omega
   have hmodw:vw .u64 (mk % 8)=mk % 8:=by rw[qw];simp only[nc] at *;exact wrap_u64 (by omega) (by omega)
   have hpack:(room BS).set (BS.length / 8) (bV .or .u8 ((room BS).getD (BS.length / 8) 0) (bV .shl .u8 bit (mk % 8)))=pack (BS++[bit]):=by
    have:=kfA BS bit mk hbs hbi hmk;have e:(mk / 8).toNat=BS.length / 8:=by simp only[nc] at *;omega
    rw[e] at this;exact this
   have hd8:BS.length / 8<(room BS).length:=by rw[kdF];omega
   cbv;refine⟨⟨?_⟩,kaQ hw hm (by rfl) ?_⟩
   ·rw[hcv];subst_vars;simp only[nc] at *;omega
   cbv;split
   ·rename_i hr8;have h8:BS.length % 8=0:=by rw[hrem,qc,kJ] at hr8;simp only[nc] at *;omega
    have hroom:room BS=l++[0]:=by rw[room,if_pos h8,hl']
    have hsub:vsub [0] 0 1=[0]:=by subst_vars;rfl
    have honto:vonto l len [0]=room BS:=by rw[hroom];subst_vars;simp
    have hin:0≤vb .quo .i64 mk 8∧vb .quo .i64 mk 8<(vaddN len 1:Nat):=by
     have hq:vb .quo .i64 mk 8=mk / 8:=by subst_vars;simp only[nc] at *;rw[j6 (by omega) (by omega) (by omega)]
     rw[hq];subst_vars;simp only[nc] at *;omega
    have hlt2:vtoN (vb .quo .i64 mk 8)<vln (vonto l len (vsub [0] 0 1)):=by rw[hquo,hsub,honto];subst_vars;simp only[nc] at *;omega
    have hlt3:vaddN 0 (vtoN (vb .quo .i64 mk 8))<vln (vonto l len (vsub [0] 0 1)):=by rw[qaddN];simpa using hlt2
    have hnn:0≤vw .u64 (vb .rem .i64 mk 8):=by rw[hrem];subst_vars;simp only[nc] at *;rw[wrap_u64 (by omega) (by omega)];omega
    cbv;refine⟨⟨?_⟩,⟨?_⟩,⟨?_⟩,⟨?_⟩,?_⟩
    ·subst_vars;decide
    ·subst_vars;exact Nat.le_refl _
    ·exact Nat.le_refl _
    ·subst_vars;simp only[nc] at *;omega
    intro c1 js1 hle;cbv;refine⟨⟨hin⟩,⟨hlt3⟩,⟨hlt2⟩,⟨hnn⟩,⟨hin⟩,⟨hlt3⟩,⟨hlt2⟩,?_⟩
    intro js1;cbv;have e3:vnotB true=false:=by subst_vars;rfl
    rw[e3];cbv;refine Cv.genAt [6] [] (Cv.fold [4,7,8,9,10,11,12,13,14,15,16,17,18,19] 7 [1] (by exact Nat.le_refl _) (by exact Nat.le_succ _) (by rfl) (by cbv) ?_)
    intro js;refine⟨(_,_,_,_,_),?_,js,rfl⟩
    refine⟨⟨i+1,?_,by omega,?_,?_,?_⟩,?_⟩
    ·rw[qb,kh (by simp only[nc] at *;omega) (by simp only[nc] at *;omega)];simp only[nc] at *;omega
    ·rw[qb,kh (by simp only[nc] at *;omega) (by simp only[nc] at *;omega),hnext];simp only[nc,List.length_append] at *;simp;omega
    ·rw[hsub,honto,hbit,hquo,hrem,hmodw,hnext,←hpack];subst_vars;rfl
    ·rw[hsub,honto,qst];simp only[List.length_set];rw[hroom];subst_vars;simp
    ·show n-(vb .add .i64 k 1).toNat<n-k.toNat
     rw[qb,kh (by simp only[nc] at *;omega) (by simp only[nc] at *;omega)];simp only[nc] at *;omega
   ·rename_i hr8;have h8:BS.length % 8≠0:=by rw[hrem,qc,ky] at hr8;simp only[nc] at *;omega
    have hroom:room BS=l:=by rw[room,if_neg h8,hl']
    have hin:0≤vb .quo .i64 mk 8∧vb .quo .i64 mk 8<len:=by
     have hq:vb .quo .i64 mk 8=mk / 8:=by subst_vars;simp only[nc] at *;rw[j6 (by omega) (by omega) (by omega)]
     rw[hq];rw[hroom] at hd8;subst_vars;simp only[nc] at *;omega
    have hlt2:vtoN (vb .quo .i64 mk 8)<vln l:=by rw[hquo];rw[hroom] at hd8;subst_vars;simp only[nc] at *;omega
    have hlt3:vaddN 0 (vtoN (vb .quo .i64 mk 8))<vln l:=by rw[qaddN];simpa using hlt2
    have hnn:0≤vw .u64 (vb .rem .i64 mk 8):=by rw[hrem];subst_vars;simp only[nc] at *;rw[wrap_u64 (by omega) (by omega)];omega
    cbv;refine⟨⟨hin⟩,⟨hlt3⟩,⟨hlt2⟩,⟨hnn⟩,⟨hin⟩,⟨hlt3⟩,⟨hlt2⟩,?_⟩
    intro js1;cbv;have e3:vnotB true=false:=by subst_vars;rfl
    rw[e3];cbv;refine Cv.genAt [6] [] (Cv.fold [4,7,8,9,10,11,12,13,14,15,16,17,18,19] 7 [1] (by exact Nat.le_refl _) (by exact Nat.le_refl _) (by rfl) (by cbv) ?_)
    intro js;refine⟨(_,_,_,_,_),?_,js,rfl⟩
    refine⟨⟨i+1,?_,by omega,?_,?_,?_⟩,?_⟩
    ·rw[qb,kh (by simp only[nc] at *;omega) (by simp only[nc] at *;omega)];simp only[nc] at *;omega
    ·rw[qb,kh (by simp only[nc] at *;omega) (by simp only[nc] at *;omega),hnext];simp only[nc,List.length_append] at *;simp;omega
    ·rw[hbit,hquo,hrem,hmodw,hnext,←hpack,hroom];subst_vars;rfl
    ·rw[qst];simp only[List.length_set];exact hlen
    ·show n-(vb .add .i64 k 1).toNat<n-k.toNat
     rw[qb,kh (by simp only[nc] at *;omega) (by simp only[nc] at *;omega)];simp only[nc] at *;omega
  ·rename_i hge;have hin:i=n:=by rw[qc,kb] at hge;simp only[nc] at *;omega
   subst hin;cbv;intro js1;cbv;refine⟨c,?_⟩
   subst_vars
   rfl
def jY (b:List Int) (k:Int):Int:=if 0≤k then b.getD (k / 8).toNat 0 / 2^(k % 8).toNat % 2 else 0
def rd (b:List Int) (p:Int):Nat→Int
 |0=>0
 |n+1=>rd b p n*2+jY b (p-1-n)
def isByte (x:Int):Prop:=0≤x∧x<256
theorem kfB (b:List Int) (k:Int):0≤jY b k∧jY b k<2:=by unfold jY;split<;>omega
theorem keK (b:List Int) (p:Int):∀n,0≤rd b p n∧rd b p n<2^n
 |0=>by simp[rd]
 |n+1=>by
  have h:=keK b p n;have h2:=kfB b (p-1-n);have hp:(2:Int)^(n+1)=2^n*2:=Int.pow_succ _ _;simp only[rd];omega
theorem kbI {n:Nat} (h:n≤56):(2:Int)^n≤72057594037927936:=by
 have:(2:Int)^n≤2^56:=by exact_mod_cast Nat.pow_le_pow_right (by decide) h
 exact this
theorem kbJ {k:IntKind} (h:k.signed=false) {x y:Int}:bV .or k x y=bV .or k y x:=by
 show k.wrap _=k.wrap _
 rw[BitVec.or_comm]
def qS (n:Int):Nat:=(if (if 0>n then 0 else n)>56 then 56 else(if 0>n then 0 else n)).toNat
theorem kkI (n:Int):qS n≤56:=by unfold qS;split<;>split<;>omega
def kbo (p:Int):Int:=if p < -1099511627776 then -1099511627776 else p
set_option maxHeartbeats 2000000 in
theorem klY (b:List Int) (cap:Nat) (p n:Int) (hb:∀x∈b,isByte x) (hp : -1099511627776≤p∧p≤8*b.length) (hl:b.length≤2^48) :
  Con Try.prog 36 [.ptr 0 .z 2 0,.int .i64 n] [.one 143 [.slice 1 .z 1 b.length cap,.int .i64 p],.ro .u8 b]
   (fun v H R=>v=.int .u64 (rd b p (qS n))∧R=[]∧H=[.one 143 [.slice 1 .z 1 b.length cap,.int .i64 (kbo (p-qS n))],.ro .u8 b]):=by
 refine kw (kV 2 (by simp) (jJ [] (kl kD ko7 ?_)))
 intro vb _ vw vtoN _ vaddN _ vmaxI vminI _ vgd _ vln _ _ _ _ _ _ _ _ hw qb qc qw qtoN _ qaddN _ qmaxI qminI _ qgd _ qln _ _ _ _ _ _ _ _;have hm:=kD;generalize Try.prog=P at *;generalize hlen:b.length=len at *;generalize hF:kbo (p-qS n)=F;generalize hV:rd b p (qS n)=V;cbv;have hN:vminI (vmaxI n 0) 56=(qS n:Nat):=by rw[qmaxI,qminI];unfold qS;simp only[nc];split<;>split<;>omega
 have hN56:=kkI n;generalize qS n=N at *;rw[hN];generalize hNN:((N:Nat):Int)=N0 at *;refine kv (α:=Int×Int) [6,7,15,16,17,18,19,20,21,22,23,24,25,26,27,28,29,30,31,32,33,34,35,36,37,38,39,40,41,42,43,44,45] []
  (fun(x,k)=>[(5,.int .u64 x),(14,.int .i64 k)]) (fun(x,k)=>[])
  (fun(x,k)=>∃i:Nat,k=i∧i≤N∧x=rd b p i) (fun(x,k)=>N-k.toNat) hw hm ?_ ?_
 ·refine Cv.genAt [5,14] [] (Cv.fold [6,7,15,16,17,18,19,20,21,22,23,24,25,26,27,28,29,30,31,32,33,34,35,36,37,38,39,40,41,42,43,44,45] 2 [] (by exact Nat.le_refl _) (by exact Nat.le_refl _) (by rfl) (by cbv) ?_)
  intro js;refine⟨(_,_),?_,js,rfl⟩
  exact⟨0,rfl,by omega,rfl⟩
 ·rintro⟨x,k⟩ js ⟨i,hk,hi,hx⟩;cbv;have hx2:=keK b p i;split
  ·rename_i hlt;have hlt:i<N:=by rw[qc,ko] at hlt;simp only[nc] at *;omega
   have hpk:vb .sub .i64 (vb .sub .i64 p 1) k=p-1-i:=by
    simp only[nc] at *;rw[qb,ku (x:=p) (by omega) (by omega),ku (by omega) (by omega),hk]
   have hk1:vb .add .i64 k 1=((i+1:Nat):Int):=by simp only[nc] at *;rw[qb,kh (by omega) (by omega)];omega
   have hp56:=kbI (show i≤56 by omega);have hshl:vb .shl .u64 x 1=rd b p i*2:=by
    rw[qb,hx,keC rfl hx2.1 (by decide) (by show _*(2:Int)^1<2^64;omega)];rfl
   cbv;split
   ·rename_i hge;have hge:0≤p-1-(i:Int):=by rw[qc,hpk,jP] at hge;simp only[nc] at *;exact hge
    have hbit:jY b (p-1-i)=b.getD ((p-1-i) / 8).toNat 0 / 2^((p-1-i) % 8).toNat % 2:=by unfold jY;rw[if_pos hge]
    generalize hz:p-1-(i:Int)=z at *;have hz8:vb .quo .i64 z 8=z / 8:=by simp only[nc] at *;rw[qb,j6 (by omega) (by omega) (by omega)]
    have hr8:vb .rem .i64 z 8=z % 8:=by simp only[nc] at *;rw[qb,kcD (by omega)]
    have hw8:vw .u64 (z % 8)=z % 8:=by simp only[nc] at *;rw[qw];exact wrap_u64 (by omega) (by omega)
    have hin:0≤vb .quo .i64 z 8∧vb .quo .i64 z 8<len:=by rw[hz8];simp only[nc] at *;omega
    have hlt2:vtoN (vb .quo .i64 z 8)<vln b:=by rw[hz8,qtoN,qln];simp only[nc] at *;omega
    have hlt3:vaddN 0 (vtoN (vb .quo .i64 z 8))<vln b:=by rw[qaddN];simpa using hlt2
    have hnn:0≤vw .u64 (vb .rem .i64 z 8):=by rw[hr8,hw8];omega
    have hval:vb .or .u64 (vb .shl .u64 x 1) (vb .and .u64 (vw .u64 (vb .shr .u8 (vgd b (vtoN (vb .quo .i64 z 8))) (vw .u64 (vb .rem .i64 z 8)))) 1)=rd b p (i+1):=by
     rw[hshl,hr8,hw8,hz8,qb,kb9 (by show z % 8≤((8:Nat):Int);omega),qgd,qtoN,qw];show bV .or .u64 (rd b p i*2) (bV .and .u64 (IntKind.u64.wrap (b.getD (z / 8).toNat 0 / 2^(z % 8).toNat)) 1)=_
     have hbyte:isByte (b.getD (z / 8).toNat 0):=by
      rw[List.getD_eq_getElem?_getD];cases hg:b[(z / 8).toNat]? with
      |none=>exact⟨by simp,by simp⟩
      |some y=>exact hb y (List.mem_of_getElem? hg)
     generalize b.getD (z / 8).toNat 0=y at *;have h1:0≤y / 2^(z % 8).toNat:=Int.ediv_nonneg hbyte.1 (Int.le_of_lt (Int.pow_pos (by decide)));have h2:y / 2^(z % 8).toNat≤y:=Int.ediv_le_self _ hbyte.1;have h3:=hbyte.2;rw[wrap_u64 h1 (by omega),and_one rfl h1 (by show _<(2:Int)^64;omega)];have e:rd b p (i+1)=rd b p i*2+y / 2^(z % 8).toNat % 2:=by rw[rd,hz,hbit]
     rw[e];have h4:0≤y / 2^(z % 8).toNat % 2∧y / 2^(z % 8).toNat % 2<2:=by omega
     generalize y / 2^(z % 8).toNat % 2=t at *;have:=kgd (k:=.u64) rfl (x:=t) (b:=rd b p i) 1 h4.1 (by omega) hx2.1 (by show _<(2:Int)^64;omega);rw[kbJ rfl];simpa [Int.add_comm] using this
    cbv;rw[hpk];refine⟨⟨hin⟩,⟨hlt3⟩,⟨hlt2⟩,⟨hnn⟩,?_⟩
    refine Cv.genAt [5,14] [] (Cv.fold [6,7,15,16,17,18,19,20,21,22,23,24,25,26,27,28,29,30,31,32,33,34,35,36,37,38,39,40,41,42,43,44,45] 2 [] (by exact Nat.le_refl _) (by exact Nat.le_refl _) (by rfl) (by cbv) ?_)
    intro js;refine⟨(_,_),?_,js,rfl⟩
    exact⟨⟨i+1,hk1,hlt,hval⟩,by show N-(vb .add .i64 k 1).toNat<N-k.toNat;rw[hk1,hk];simp only[nc] at *;omega⟩
   ·rename_i hge;have hge:¬0≤p-1-(i:Int):=by rw[qc,hpk,k7] at hge;simp only[nc] at *;exact hge
    have hbit:jY b (p-1-i)=0:=by unfold jY;rw[if_neg hge]
    have hval:vb .shl .u64 x 1=rd b p (i+1):=by rw[hshl,rd,hbit];omega
    cbv;refine Cv.genAt [5,14] [] (Cv.fold [6,7,15,16,17,18,19,20,21,22,23,24,25,26,27,28,29,30,31,32,33,34,35,36,37,38,39,40,41,42,43,44,45] 2 [] (by exact Nat.le_refl _) (by exact Nat.le_refl _) (by rfl) (by cbv) ?_)
    intro js;refine⟨(_,_),?_,js,rfl⟩
    exact⟨⟨i+1,hk1,hlt,hval⟩,by show N-(vb .add .i64 k 1).toNat<N-k.toNat;rw[hk1,hk];simp only[nc] at *;omega⟩
  ·rename_i hge;have hin:i=N:=by rw[qc,kb] at hge;simp only[nc] at *;omega
   subst hin;have hs:vb .sub .i64 p N0=p-N0:=by simp only[nc] at *;rw[qb,ku (by omega) (by omega)]
   cbv;split
   ·rename_i hf;have hf:kbo (p-N0) = -1099511627776:=by rw[qc,hs,ko] at hf;unfold kbo;rw[if_pos hf]
    cbv;refine⟨?_,?_⟩<;>simp only[hx,hV,show F = -1099511627776 by rw[←hF,←hf,←hNN]]
   ·rename_i hf;have hf:kbo (p-N0)=p-N0:=by rw[qc,hs,kb] at hf;unfold kbo;rw[if_neg hf]
    cbv;refine⟨?_,?_⟩<;>simp only[hx,hV,hs,show F=p-N0 by rw[←hF,←hf,←hNN]]
theorem kd (l:List Int):kiO 0 l l:=⟨⟨by omega,fun i _=>by rw[Nat.zero_add]⟩⟩
theorem klZ (b:List Int) (len cap:Nat) (p:Int):Con Try.prog 37 [.ptr 0 .z 2 0] [.one 143 [.slice 1 .z 1 len cap,.int .i64 p],.ro .u8 b]
      (fun v H R=>v=.int .i64 p∧R=[]∧H=[.one 143 [.slice 1 .z 1 len cap,.int .i64 p],.ro .u8 b]):=by
  refine kl kD ko8 ?_
  intro _ _ _ _ _ _ _ _ _ _ _ _ _ _ _ _ _ _ _ _ _ _ _ _ _ _ _ _ _ _ _ _ _ _ _ _ _ _ _ _ _ _ _;generalize Try.prog=P at *;cbv
theorem kfC (bs:List Int) (c:Nat) (hb:∀b∈bs,kT b) (hl:bs.length≤2^40) :
    Con Try.prog 31 [.ptr 0 .z 2 0] [.one 71 [.slice 1 .z 1 (pack bs).length c,.int .i64 bs.length],.buf 5 .u8 (pack bs) c]
      (fun v H R=>R=[1]∧∃c',v=.slice 1 .z 1 (pack (bs++[1])).length c'∧H=[.one 71 [.val (.slice none 0 0),.int .i64 0],.buf 5 .u8 (pack (bs++[1])) c']):=by
  have hput:=kge bs c 1 1 (by decide) (by decide) hb hl;have e1:kr 1 1=[1]:=by decide
  rw[e1] at hput;refine kw (kV 2 (by simp) (jJ [1] (kl kD ko6 ?_)))
  intro _ _ _ _ _ _ _ _ _ _ _ _ _ _ _ _ _ _ _ _ _ _ _ _ _ _ _ _ _ _ _ _ _ _ _ _ _ _ _ _ _ _ _;generalize Try.prog=P at *;generalize pack bs=l0 at *;generalize pack (bs++[1])=l1 at *;generalize l0.length=n0 at *;generalize (bs.length:Int)=m0 at *;generalize ((bs++[1]).length:Int)=m1 at *;generalize hn1:l1.length=n1 at *;cbv;refine ka (ρ:=[(0,.z),(1,.z)]) hput ⟨by rfl,by rfl,by rfl,by cbv⟩ ?_
  rintro v H R js ⟨rfl,rfl,c',rfl⟩;cbv;exact⟨c',rfl,rfl⟩
def len8 (x:Int):Int:=if x<1 then 0 else if x<2 then 1 else if x<4 then 2 else if x<8 then 3 else if x<16 then 4 else if x<32 then 5 else if x<64 then 6 else if x<128 then 7 else 8
def lenTab:List Int:=[0,1,2,2,3,3,3,3,4,4,4,4,4,4,4,4,5,5,5,5,5,5,5,5,5,5,5,5,5,5,5,5,6,6,6,6,6,6,6,6,6,6,6,6,6,6,6,6,6,6,6,6,6,6,6,6,6,6,6,6,6,6,6,6,7,7,7,7,7,7,7,7,7,7,7,7,7,7,7,7,7,7,7,7,7,7,7,7,7,7,7,7,7,7,7,7,7,7,7,7,7,7,7,7,7,7,7,7,7,7,7,7,7,7,7,7,7,7,7,7,7,7,7,7,7,7,7,7,8,8,8,8,8,8,8,8,8,8,8,8,8,8,8,8,8,8,8,8,8,8,8,8,8,8,8,8,8,8,8,8,8,8,8,8,8,8,8,8,8,8,8,8,8,8,8,8,8,8,8,8,8,8,8,8,8,8,8,8,8,8,8,8,8,8,8,8,8,8,8,8,8,8,8,8,8,8,8,8,8,8,8,8,8,8,8,8,8,8,8,8,8,8,8,8,8,8,8,8,8,8,8,8,8,8,8,8,8,8,8,8,8,8,8,8,8,8,8,8,8,8,8,8,8,8,8,8]
set_option maxRecDepth 100000 in
theorem kkJ (n:Fin 256):IntKind.i64.wrap (((UInt8.ofNat (lenTab.getD n.val 0).toNat).toNat:Nat):Int)=len8 (n.val:Int):=by
  revert n
  decide +kernel
set_option maxRecDepth 100000 in
theorem kl0 (x:Int) (hx:isByte x):Con Try.prog 71 [.int .u8 x] [] (fun v H R=>v=.int .i64 (len8 x)∧H=[]∧R=[]):=by
  obtain⟨n,rfl⟩:∃n:Nat,x=n:=⟨x.toNat,by have:=hx.1;omega⟩;have hn:n<256:=by have:=hx.2;omega
  have hL:=kkJ ⟨n,hn⟩;refine kl kD kpg ?_
  intro _ _ _ _ _ _ _ _ _ _ _ _ _ _ _ _ _ _ _ _ _ _ _ _ qw qtoN _ _ _ _ _ _ qgd _ qln _ _ _ _ _ qbyteV _ _;generalize Try.prog=P at *;generalize len8 (n:Int)=L at *;generalize hnn:(n:Int)=x at *;have hx35:x71=(.seq (.ops [⟨(some 2),.mv (.k (.lit .i64 0)),none,[]⟩])
    (.seq (.ops [⟨(some 3),.mv (.t 0),none,[]⟩,
      ⟨(some 4),.idxS (.k (.str lenTab)) (.t 3),none,[]⟩,
      ⟨(some 5),.conv .i64 (.t 4),none,[]⟩,
      ⟨(some 2),.mv (.t 5),none,[]⟩])
    (.ret))):=rfl
  rw[hx35];have hl:lenTab.length=256:=by rfl
  generalize lenTab=T at *;cbv;refine⟨⟨?_⟩,?_⟩
  · simp only[qln,hl];simp only[nc] at *;omega
  · rw[qw,qbyteV,qgd,qtoN]
    subst hnn;exact⟨congrArg (SV.int .i64) hL,trivial⟩
theorem jZ (b:List Int):b.getLastD 0=b.getD (b.length-1) 0:=by
  rw[List.getLastD_eq_getLast?,List.getLast?_eq_getElem?,List.getD_eq_getElem?_getD]
theorem km9 (b:List Int) (cap:Nat) (hb:b.getLastD 0=0) (hl:b.length≤2^48):Con Try.prog 35 [.slice 0 .z 1 b.length cap] [.ro .u8 b] (fun v H R=>v=.tup [.val (.pointer none),.lit .i64 11]∧H=[.ro .u8 b]∧R=[]):=by
  refine kV 1 (by simp) (jJ [] (kl kD kn4 ?_))
  intro vb vc _ vtoN vofN vaddN _ _ _ _ vgd _ vln _ _ _ _ _ _ _ _ _ qb qc _ qtoN qofN qaddN _ _ _ _ qgd _ qln _ _ _ _ _ _ _ _;generalize Try.prog=P at *;rw[jZ] at hb;generalize hlen:b.length=len at *;cbv;generalize h0:vc .eql (vofN len) 0=z0;cases z0
  rotate_left
  · cbv
  · have h0:1≤len:=by rw[qc,qofN,ky] at h0;simp only[nc] at *;omega
    have hsub:vb .sub .i64 (vofN len) 1=len-1:=by rw[qb,qofN];simp only[nc] at *;rw[ku (by omega) (by omega)]
    have hin:0≤vb .sub .i64 (vofN len) 1∧vb .sub .i64 (vofN len) 1<len:=by rw[hsub];simp only[nc] at *;omega
    have hi:vtoN (vb .sub .i64 (vofN len) 1)=len-1:=by rw[hsub,qtoN];simp only[nc] at *;omega
    have hlt2:vtoN (vb .sub .i64 (vofN len) 1)<vln b:=by rw[hi,qln];simp only[nc] at *;omega
    have hlt3:vaddN 0 (vtoN (vb .sub .i64 (vofN len) 1))<vln b:=by rw[qaddN];simpa using hlt2
    cbv;refine⟨⟨hin⟩,⟨hlt3⟩,⟨hlt2⟩,?_⟩
    have hz:vc .eql (vgd b (vtoN (vb .sub .i64 (vofN len) 1))) 0=true:=by rw[hi,qgd,qc,kJ];exact hb
    rw[hz];cbv
theorem kl1 (b:List Int) (cap:Nat) (hb:b.getLastD 0≠0) (hby:∀x∈b,isByte x) (hl:b.length≤140737488355328):Con Try.prog 35 [.slice 0 .z 1 b.length cap] [.ro .u8 b]
    (fun v H R=>v=.tup [.ptr 2 .z 2 0,.lit .i64 0]∧R=[1]∧∃c',H=[.ro .u8 b,.buf 5 .u8 b c',.one 143 [.slice 1 .z 1 b.length c',.int .i64 (8*(b.length-1)+(len8 (b.getLastD 0)-1))]]):=by
  have hbyte:isByte (b.getLastD 0):=by
    rw[jZ,List.getD_eq_getElem?_getD];cases hg:b[b.length-1]? with
    |none=>exact⟨by simp,by simp⟩
    |some y=>exact hby y (List.mem_of_getElem? hg)
  have hlen8:=kl0 (b.getLastD 0) hbyte;have hL8:0≤len8 (b.getLastD 0)∧len8 (b.getLastD 0)≤8:=by unfold len8;(repeat' split)<;>omega
  refine kV 3 (by simp) (jJ [1] (kl kD kn4 ?_))
  intro vb vc _ vtoN vofN vaddN _ _ _ _ vgd _ vln _ vsub vonto _ _ _ _ _ _ qb qc _ qtoN qofN qaddN _ _ _ _ qgd _ qln _ qsub qonto _ _ _ _ _;generalize Try.prog=P at *;generalize len8 (b.getLastD 0)=L at *;generalize hF:(8*((b.length:Int)-1)+(L-1))=F;rw[jZ] at *
  have h0:1≤b.length:=by
    rcases b with _|⟨x,b⟩
    · exact absurd rfl hb
    · simp
  generalize hlen:b.length=len at *;generalize hlast:b.getD (len-1) 0=last at *;cbv;have e0:vc .eql (vofN len) 0=false:=by rw[qc,qofN,ky];simp only[nc] at *;omega
  rw[e0];have hsub:vb .sub .i64 (vofN len) 1=len-1:=by rw[qb,qofN];simp only[nc] at *;rw[ku (by omega) (by omega)]
  have hin:0≤vb .sub .i64 (vofN len) 1∧vb .sub .i64 (vofN len) 1<len:=by rw[hsub];simp only[nc] at *;omega
  have hi:vtoN (vb .sub .i64 (vofN len) 1)=len-1:=by rw[hsub,qtoN];simp only[nc] at *;omega
  have hlt2:vtoN (vb .sub .i64 (vofN len) 1)<vln b:=by rw[hi,qln];simp only[nc] at *;omega
  have hlt3:vaddN 0 (vtoN (vb .sub .i64 (vofN len) 1))<vln b:=by rw[qaddN];simpa using hlt2
  have hval:vgd b (vtoN (vb .sub .i64 (vofN len) 1))=last:=by rw[hi,qgd];exact hlast
  have hz:vc .eql (vgd b (vtoN (vb .sub .i64 (vofN len) 1))) 0=false:=by rw[hval,qc,ky];exact hb
  cbv;refine⟨⟨hin⟩,⟨hlt3⟩,⟨hlt2⟩,?_⟩
  rw[hz];cbv;refine⟨⟨hin⟩,⟨hlt3⟩,⟨hlt2⟩,?_⟩
  rw[hval];refine ka (ρ:=[]) hlen8 ⟨by rfl,by rfl,by rfl,by cbv⟩ ?_
  rintro v H R js ⟨rfl,rfl,rfl⟩;cbv;have ha:vaddN 0 len=len:=by simp only[qaddN,Nat.zero_add]
  have hpay:vonto [] 0 (vsub b 0 len)=b:=by simp only[qonto,qsub];simp[←hlen]
  have hpos:vb .add .i64 (vb .mul .i64 8 (vb .sub .i64 (vofN len) 1)) (vb .sub .i64 L 1)=F:=by
    rw[hsub,←hF];simp only[nc] at *
    rw[qb,kju (by omega) (by omega),ku (x:=L) (by omega) (by omega),kh (by omega) (by omega)]
  refine⟨⟨?_⟩,⟨?_⟩,⟨?_⟩,⟨?_⟩,?_⟩
  · rw[ha,qln];exact Nat.le_of_eq hlen.symm
  · exact Nat.zero_le _
  · exact Nat.zero_le _
  · rw[ha];omega
  intro c1 js1 hle;cbv;rw[ha,hpay,hpos];exact⟨c1,rfl⟩
end Go.Proofs.Ytlclleihoampdaa
namespace Go.Proofs.Ytlclleihoampdaa
open Go Go.Sx
def k8 (bs:List Int) (x n:Int):List Int:=if 0≤n∧n≤56 then bs++kr x n.toNat else bs
theorem khE {bs:List Int} {x n:Int} (h:∀b∈bs,kT b):∀b∈k8 bs x n,kT b:=by
 unfold k8;split
 ·exact fun b hb=>(List.mem_append.1 hb).elim (h b) (kX x _ b)
 ·exact h
theorem khF (l:List Int) (h:∀b∈l,kT b) (i:Nat):∀n j,j<n→kK l i n / 2^j % 2=l.getD (i+j) 0
 |0,j,hj=>by omega
 | n+1,j,hj=>by
  have hg:l.getD (i+n) 0=0∨l.getD (i+n) 0=1:=by
   rw[List.getD_eq_getElem?_getD];cases hg:l[i+n]? with
   |none=>left;rfl
   |some b=>exact h b (List.mem_of_getElem? hg)
  have hb:=jd l h i n;simp only[kK];by_cases hjn:j=n
  ·subst hjn;have hp:(0:Int)<2^j:=Int.pow_pos (by decide);rw[Int.add_mul_ediv_right _ _ (by omega),Int.ediv_eq_zero_of_lt hb.1 hb.2];rcases hg with hg|hg<;>rw[hg]<;>decide
  ·have hj':j<n:=by omega
   have e:(2:Int)^n=2^(n-j-1)*2*2^j:=by
    rw[←Int.pow_succ,←Int.pow_add];congr 1;omega
   have hp:(0:Int)<2^j:=Int.pow_pos (by decide);rw[e,←Int.mul_assoc,Int.add_mul_ediv_right _ _ (by omega),←Int.mul_assoc];rw[Int.add_mul_emod_self_right];exact khF l h i n j hj'
theorem kfD (bs:List Int) (i:Nat):(pack bs).getD i 0=kK bs (8*i) 8:=by
 rw[List.getD_eq_getElem?_getD];by_cases hi:i<(bs.length+7) / 8
 ·simp[pack,hi]
 ·rw[List.getElem?_eq_none (by rw[kF];omega),kbH bs _ (by omega)];rfl
theorem kkK (bs:List Int) (h:∀b∈bs,kT b):∀x∈pack bs,isByte x:=by
 intro x hx;obtain⟨i,_,rfl⟩:=List.mem_map.1 hx;exact jd bs h _ 8
theorem keL (bs:List Int) (h:∀b∈bs,kT b) (k:Nat):jY (pack bs) k=bs.getD k 0:=by
 unfold jY;rw[if_pos (by omega),kfD];have e1:((k:Int) / 8).toNat=k / 8:=by omega
 have e2:((k:Int) % 8).toNat=k % 8:=by omega
 rw[e1,e2,khF bs h _ 8 (k % 8) (by omega)];congr 1
 omega
theorem kl2 (y m:Int):y / 2 % m*2+y % 2=y % (2*m):=by
 rw[Int.emod_def y (2*m),Int.emod_def (y / 2) m,Int.mul_assoc,←Int.ediv_ediv_of_nonneg (by decide)];generalize m*(y / 2 / m)=q;omega
theorem kjz (bs pre:List Int) (x:Int) (n:Nat) (hx:0≤x) (h:∀b∈bs,kT b) (hp:∀j,j<n→bs.getD (pre.length+j) 0=x / 2^j % 2) :
  ∀i,i≤n→rd (pack bs) ((pre.length:Int)+n) i=x / 2^(n-i) % 2^i
 |0,_=>by simp[rd,Int.emod_one]
 |i+1,hi=>by
  simp only[rd];rw[kjz bs pre x n hx h hp i (by omega)];have e1:(pre.length:Int)+n-1-i=((pre.length+(n-1-i):Nat):Int):=by omega
  rw[e1,keL bs h,hp _ (by omega)];have e2:n-i=(n-(i+1))+1:=by omega
  have e3:n-1-i=n-(i+1):=by omega
  rw[e2,e3,Int.pow_succ,←Int.ediv_ediv_of_nonneg (Int.le_of_lt (Int.pow_pos (by decide)))];generalize x / 2^(n-(i+1))=y;rw[Int.pow_succ,Int.mul_comm (2^i) 2,kl2]
theorem kn9 (pre rest:List Int) (x:Int) (n:Nat) (hx:0≤x) (h:∀b∈pre++kr x n++rest,kT b) :
  rd (pack (pre++kr x n++rest)) ((pre++kr x n).length:Nat) n=x % 2^n:=by
 have:=kjz (pre++kr x n++rest) pre x n hx h (fun j hj=>by
  rw[List.getD_eq_getElem?_getD,List.getElem?_append_left (by simp[kg];omega),List.getElem?_append_right (by omega)];simp[kr,hj]) n (Nat.le_refl n)
 rw[Nat.sub_self] at this;simpa [kg] using this
theorem kkL (bs:List Int) (h:∀b∈bs,kT b):(pack (bs++[1])).getLastD 0=kK bs (8*(bs.length / 8)) (bs.length % 8)+2^(bs.length % 8)∧(pack (bs++[1])).length=bs.length / 8+1:=by
 have hl:(pack (bs++[1])).length=bs.length / 8+1:=by rw[kF];simp;omega
 refine⟨?_,hl⟩
 rw[jZ,hl,kfD,Nat.add_sub_cancel,kdf,if_pos (by omega),kdh bs _ (bs.length % 8) (by omega) 8 (by omega)];have:bs.length-8*(bs.length / 8)=bs.length % 8:=by omega
 rw[this];omega
theorem kl3 {x:Int} {j:Nat} (hj:j<8) (h0:2^j≤x) (h1:x<2^j+2^j):len8 x=j+1:=by
 have:j=0∨j=1∨j=2∨j=3∨j=4∨j=5∨j=6∨j=7:=by omega
 rcases this with rfl|rfl|rfl|rfl|rfl|rfl|rfl|rfl<;>simp only[Int.reducePow] at h0 h1<;>unfold len8<;>(repeat' split)<;>omega
theorem kna (bs:List Int) (h:∀b∈bs,kT b):(pack (bs++[1])).getLastD 0≠0∧8*(((pack (bs++[1])).length:Int)-1)+(len8 ((pack (bs++[1])).getLastD 0)-1)=bs.length:=by
 obtain⟨h1,h2⟩:=kkL bs h;have hb:=jd bs h (8*(bs.length / 8)) (bs.length % 8);have hp:(0:Int)<2^(bs.length % 8):=Int.pow_pos (by decide);rw[h1,h2];refine⟨by omega,?_⟩
 rw[kl3 (j:=bs.length % 8) (by omega) (by omega) (by omega)];omega
end Go.Proofs.Ytlclleihoampdaa
namespace Go.Proofs.Ytlclleihoampdaa
open Go Go.Sx Go.Proofs
def j8 (n:Int):Int:=if 0≤n∧n≤56 then 0 else 2
theorem kl4 (bs:List Int) (c:Nat) (x n:Int) (hx:0≤x∧x<2^64) (hb:∀b∈bs,kT b) (hl:bs.length≤2^40) :
  Con Try.prog 29 [.ptr 0 .z 2 0,.int .u64 x,.int .i64 n] [.one 71 [.slice 1 .z 1 (pack bs).length c,.int .i64 bs.length],.buf 5 .u8 (pack bs) c]
   (fun v H R=>v=.int .i64 (j8 n)∧R=[1]∧∃c',H=[.one 71 [.slice 1 .z 1 (pack (k8 bs x n)).length c',.int .i64 (k8 bs x n).length],.buf 5 .u8 (pack (k8 bs x n)) c']):=by
 by_cases hn:0≤n∧n≤56
 ·obtain⟨m,rfl⟩:∃m:Nat,n=m:=⟨n.toNat,by omega⟩;refine kw ((kge bs c x m (by omega) hx hb hl).mono ?_)
  rintro v H R ⟨rfl,rfl,c',rfl⟩;have e:k8 bs x m=bs++kr x m:=by unfold k8;rw[if_pos hn];rfl
  have e2:j8 m=0:=by unfold j8;rw[if_pos hn]
  rw[e,e2];exact⟨rfl,rfl,c',rfl⟩
 ·have e:k8 bs x n=bs:=by unfold k8;rw[if_neg hn]
  have e2:j8 n=2:=by unfold j8;rw[if_neg hn]
  rw[e,e2];refine kw (kV 2 (by simp) (jJ [1] (kl kD koE ?_)))
  intro _ vc _ _ _ _ _ _ _ _ _ _ _ _ _ _ _ _ _ _ _ _ _ qc _ _ _ _ _ _ _ _ _ _ _ _ _ _ _ _ _ _ _;generalize Try.prog=P at *;generalize pack bs=l0 at *;generalize l0.length=len0 at *;generalize (bs.length:Int)=m0 at *;cbv;generalize h1:vc .lss n 0=z1;cases z1
  ·cbv;have h2:vc .gtr n 56=true:=by rw[qc,kb] at h1;rw[qc,kC];omega
   rw[h2];cbv;exact⟨c,rfl⟩
  ·cbv;exact⟨c,rfl⟩
end Go.Proofs.Ytlclleihoampdaa
namespace Go.Proofs.Ytlclleihoampdaa
open Go Go.Sx
theorem jw {l:List Int} {i:Nat} (h:i<l.length):l.take (i+1)=l.take i++[l.getD i 0]:=by
 rw[List.take_succ_eq_append_getElem h];simp[List.getD_eq_getElem?_getD,h]
end Go.Proofs.Ytlclleihoampdaa
namespace Go.Proofs.Ytlclleihoampdaa
open Go Go.Sx Go.Proofs
def bitsOf (b:List Int) (k:Nat):List Int:=(List.range k).map fun(i:Nat)=>jY b (i:Int)
theorem ki0 (b:List Int) (k i:Nat) (h:i<k):(bitsOf b k).getD i 0=jY b i:=by simp[bitsOf,List.getD_eq_getElem?_getD,h]
def qT (b:List Int):Int:=8*((b.length:Int)-1)+(len8 (b.getLastD 0)-1)
theorem kkM {x:Int} (h0:0<x) (h1:x<256):1≤len8 x∧len8 x≤8∧x / 2^(len8 x-1).toNat % 2=1∧∀j:Nat,len8 x≤j→x / 2^j=0:=by
 have hlt:x<2^(len8 x).toNat:=by unfold len8;(repeat' split)<;>first|omega|(simp;omega)
 have h8:1≤len8 x∧len8 x≤8:=by unfold len8;(repeat' split)<;>omega
 refine⟨h8.1,h8.2,?_,fun j hj=>?_⟩
 ·unfold len8;(repeat' split)<;>simp<;>omega
 ·have hp:(2:Int)^(len8 x).toNat≤2^j:=by exact_mod_cast Nat.pow_le_pow_right (by decide) (by omega)
  exact Int.ediv_eq_zero_of_lt (by omega) (by omega)
theorem khG (b:List Int) (hb:b.getLastD 0≠0) (hby:∀x∈b,isByte x):∃P:Nat,qT b=P∧P<8*b.length∧jY b P=1∧∀k:Nat,P<k→k<8*b.length→jY b k=0:=by
 have hbyte:isByte (b.getLastD 0):=by
  rw[jZ,List.getD_eq_getElem?_getD];cases hg:b[b.length-1]? with
  |none=>exact⟨by simp,by simp⟩
  |some y=>exact hby y (List.mem_of_getElem? hg)
 have h0:1≤b.length:=by
  rcases b with _|⟨x,b⟩
  ·exact absurd rfl hb
  ·simp
 obtain⟨h1,h2,h3,h4⟩:=kkM (x:=b.getLastD 0) (by have:=hbyte.1;omega) hbyte.2;have hlast:=jZ b;unfold qT;generalize b.getLastD 0=x at *;refine⟨8*(b.length-1)+(len8 x-1).toNat,by omega,by omega,?_,fun k hk1 hk2=>?_⟩
 ·unfold jY;rw[if_pos (by omega)];have e1:((((8*(b.length-1)+(len8 x-1).toNat:Nat)):Int) / 8).toNat=b.length-1:=by omega
  have e2:((((8*(b.length-1)+(len8 x-1).toNat:Nat)):Int) % 8).toNat=(len8 x-1).toNat:=by omega
  rw[e1,e2,←hlast];exact h3
 ·unfold jY;rw[if_pos (by omega)];have e1:((k:Int) / 8).toNat=b.length-1:=by omega
  rw[e1,←hlast,h4 _ (by omega)];rfl
theorem kaA {b:List Int} (hby:∀x∈b,isByte x) (i:Nat):isByte (b.getD i 0):=by
 rw[List.getD_eq_getElem?_getD];cases hg:b[i]? with
 |none=>exact⟨by simp,by simp⟩
 |some y=>exact hby y (List.mem_of_getElem? hg)
end Go.Proofs.Ytlclleihoampdaa
namespace Go.Proofs.Ytlclleihoampdaa
open Go Go.Sx
theorem kaV (l:List Int) (i n:Nat):∀m,kK l i (n+m)=kK l i n+kK l (i+n) m*2^n
 |0=>by simp[kK]
 |m+1=>by
  rw[show n+(m+1)=(n+m)+1 from rfl];simp only[kK];rw[kaV l i n m,Int.pow_add,Int.add_mul,Nat.add_assoc];have:l.getD (i+(n+m)) 0*(2^n*2^m)=l.getD (i+(n+m)) 0*2^m*2^n:=by rw[Int.mul_comm (2^n),Int.mul_assoc]
  omega
def ja (b:List Int):List Int:=bitsOf b (8*b.length)
theorem kaB (b:List Int):∀x∈ja b,kT x:=by
 intro x hx;obtain⟨i,_,rfl⟩:=List.mem_map.1 hx;have:=kfB b (i:Int);unfold kT;omega
theorem khH (b:List Int) (i:Nat) (h:i<8*b.length):(ja b).getD i 0=jY b i:=ki0 b _ i h
theorem kkN {x:Int} (h:isByte x):x / 2^0 % 2*2^0+x / 2^1 % 2*2^1+x / 2^2 % 2*2^2+x / 2^3 % 2*2^3+x / 2^4 % 2*2^4+x / 2^5 % 2*2^5+x / 2^6 % 2*2^6+x / 2^7 % 2*2^7=x:=by
 obtain⟨h0,h1⟩:=h;simp only[Int.reducePow];omega
theorem kfE (b:List Int) (hby:∀x∈b,isByte x) (i:Nat) (h:i<b.length):kK (ja b) (8*i) 8=b.getD i 0:=by
 have hg:∀j:Nat,j<8→(ja b).getD (8*i+j) 0=b.getD i 0 / 2^j % 2:=fun j hj=>by
  rw[khH b _ (by omega)];unfold jY;rw[if_pos (by omega)];have e1:(((8*i+j:Nat):Int) / 8).toNat=i:=by omega
  have e2:(((8*i+j:Nat):Int) % 8).toNat=j:=by omega
  rw[e1,e2]
 have hb:=kkN (kaA hby i);simp only[kK];rw[hg 0 (by omega),hg 1 (by omega),hg 2 (by omega),hg 3 (by omega),hg 4 (by omega),hg 5 (by omega),hg 6 (by omega),hg 7 (by omega)];rw[Int.zero_add];exact hb
theorem kl5 (l:List Int) (h:∀b∈l,kT b) (i n m:Nat):kK l i (n+m) % 2^n=kK l i n∧kK l i (n+m) / 2^n=kK l (i+n) m:=by
 have hb:=jd l h i n;have hp:(0:Int)<2^n:=Int.pow_pos (by decide);rw[kaV];constructor
 ·rw[Int.add_mul_emod_self_right];exact Int.emod_eq_of_lt hb.1 hb.2
 ·rw[Int.add_mul_ediv_right _ _ (by omega),Int.ediv_eq_zero_of_lt hb.1 hb.2];omega
end Go.Proofs.Ytlclleihoampdaa
namespace Go.Proofs.Ytlclleihoampdaa
open Go Go.Sx Go.Proofs
theorem kjA (b:List Int) (at' cap:Nat) (h:at'<b.length) (hl:b.length≤2^60) :
  Con Try.prog 121 [.ptr 0 .z 1 0,.ptr 1 .z 1 0] [.one 3 [.int .i64 at'],.one 25 [.slice 2 .z 1 b.length cap],.ro .u8 b]
   (fun v H R=>v=.tup [.int .u8 (b.getD at' 0),.bool true]∧R=[]∧H=[.one 3 [.int .i64 ((at'+1:Nat):Int)],.one 25 [.slice 2 .z 1 b.length cap],.ro .u8 b]):=by
 refine kl kD knQ ?_
 intro vb vc _ vtoN vofN vaddN _ _ _ _ vgd _ vln _ _ _ _ _ _ _ _ _ qb qc _ qtoN qofN qaddN _ _ _ _ qgd _ qln _ _ _ _ _ _ _ _;generalize Try.prog=P at *;generalize hlen:b.length=len at *;generalize hv:b.getD at' 0=v0;generalize ha1:((at'+1:Nat):Int)=a1;generalize ha:((at':Nat):Int)=a0;cbv;have e1:vc .geq a0 (vofN len)=false:=by simp only[qc,qofN];rw[k7];simp only[nc] at *;omega
 have e2:vb .add .i64 a0 1=a1:=by simp only[nc] at *;rw[qb,kh (by omega) (by omega)];omega
 have e3:vb .sub .i64 a1 1=a0:=by simp only[nc] at *;rw[qb,ku (by omega) (by omega)];omega
 have hin:0≤a0∧a0<len:=by simp only[nc] at *;omega
 have ht:vtoN a0=at':=by simp only[qtoN];simp only[nc] at *;omega
 have hlt:vtoN a0<vln b:=by rw[ht];simp only[qln];omega
 have hlt2:vaddN 0 (vtoN a0)<vln b:=by simp only[qaddN,Nat.zero_add];exact hlt
 have hval:vgd b (vtoN a0)=v0:=by rw[ht];simp only[qgd];exact hv
 rw[e1];cbv;rw[e2,e3,hval];exact⟨⟨hin⟩,⟨hlt2⟩,⟨hlt⟩,rfl,rfl⟩
theorem kl6 (b:List Int) (cap:Nat) (hl:b.length≤2^60) :
  Con Try.prog 121 [.ptr 0 .z 1 0,.ptr 1 .z 1 0] [.one 3 [.int .i64 b.length],.one 25 [.slice 2 .z 1 b.length cap],.ro .u8 b]
   (fun v H R=>v=.tup [.lit .u8 0,.bool false]∧R=[]∧H=[.one 3 [.int .i64 b.length],.one 25 [.slice 2 .z 1 b.length cap],.ro .u8 b]):=by
 refine kl kD knQ ?_
 intro _ vc _ _ vofN _ _ _ _ _ _ _ _ _ _ _ _ _ _ _ _ _ _ qc _ _ qofN _ _ _ _ _ _ _ _ _ _ _ _ _ _ _ _;generalize Try.prog=P at *;generalize hlen:b.length=len at *;generalize ha:((len:Nat):Int)=a0;cbv;have e1:vc .geq a0 (vofN len)=true:=by simp only[qc,qofN];rw[jP];simp only[nc] at *;omega
 rw[e1];cbv
theorem kkO (b:List Int) (at' cap:Nat) (h:at'≤b.length) (hl:b.length≤2^50) :
  Con Try.prog 122 [.ptr 1 .z 1 0,.ptr 0 .z 1 0] [.one 3 [.int .i64 at'],.one 25 [.slice 2 .z 1 b.length cap],.ro .u8 b]
   (fun v H R=>v=.int .i64 (8*((b.length:Int)-at'))∧R=[]∧H=[.one 3 [.int .i64 at'],.one 25 [.slice 2 .z 1 b.length cap],.ro .u8 b]):=by
 refine kl kD koO ?_
 intro vb _ _ _ vofN _ _ _ _ _ _ _ _ _ _ _ _ _ _ _ _ _ qb _ _ _ qofN _ _ _ _ _ _ _ _ _ _ _ _ _ _ _ _;generalize Try.prog=P at *;generalize hlen:b.length=len at *;generalize hr:8*((len:Int)-at')=r;generalize ha:((at':Nat):Int)=a0;have e1:vb .mul .i64 8 (vb .sub .i64 (vofN len) a0)=r:=by simp only[qb,qofN];rw[ku (by omega) (by omega),kju (by omega) (by omega)];omega
 cbv;rw[e1];trivial
set_option maxHeartbeats 4000000 in
theorem knb (b:List Int) (pos at' cap n:Nat) (hby:∀x∈b,isByte x) (hl:b.length≤2^50) (hp:pos≤8*at') (hp2:8*at'≤pos+63) (ha:at'≤b.length) (hn:n≤56) (hen:pos+n≤8*b.length) :
  Con Try.prog 123 [.ptr 0 .z 4 0,.int .i64 n] [(.one 215 [.fn 121 [.ptr 1 .z 1 0,.ptr 2 .z 1 0],.int .u64 (kK (ja b) pos (8*at'-pos)),.int .i64 (((8*at'-pos:Nat):Int)),.fn 122 [.ptr 2 .z 1 0,.ptr 1 .z 1 0]]),.one 3 [.int .i64 at'],.one 25 [.slice 3 .z 1 b.length cap],.ro .u8 b]
   (fun v H R=>v=.bool true∧R=[]∧∃a2:Nat,pos+n≤8*a2∧8*a2≤pos+63∧a2≤b.length∧H=[(.one 215 [.fn 121 [.ptr 1 .z 1 0,.ptr 2 .z 1 0],.int .u64 (kK (ja b) pos (8*a2-pos)),.int .i64 (((8*a2-pos:Nat):Int)),.fn 122 [.ptr 2 .z 1 0,.ptr 1 .z 1 0]]),.one 3 [.int .i64 a2],.one 25 [.slice 3 .z 1 b.length cap],.ro .u8 b]):=by
 have hnext:=fun a h=>kjA b a cap h (by omega)
 refine kV 4 (by simp) (jJ [] (kl kD knR ?_))
 intro vb _ vw _ _ _ _ _ _ _ _ _ _ _ _ _ _ _ _ vnotB _ hw qb qc qw _ _ _ _ _ _ _ _ _ _ _ _ _ _ _ _ qnotB _;have hm:=kD;generalize Try.prog=P at *;generalize hacc:kK (ja b) pos (8*at'-pos)=acc;generalize hhave:((8*at'-pos:Nat):Int)=have0;generalize ha0:((at':Nat):Int)=a0;generalize hn0:((n:Nat):Int)=n0;generalize hlen:b.length=len at *;cbv;refine kv (α:=Int×Int×Int) [5,6,7,8,9,10,11,12,13,14,15,16,17,18,19,20,21,22,23,24,25,26,27,28,29,30,31,32,33,34,35,36,37,38,39,40,41,42,43,44] []
  (fun(x,k,a)=>[]) (fun(x,k,a)=>[(0,(.one 215 [.fn 121 [.ptr 1 .z 1 0,.ptr 2 .z 1 0],.int .u64 (x),.int .i64 (k),.fn 122 [.ptr 2 .z 1 0,.ptr 1 .z 1 0]])),(1,.one 3 [.int .i64 a])])
  (fun(x,k,a)=>∃i:Nat,pos≤8*i∧8*i≤pos+63∧i≤len∧x=kK (ja b) pos (8*i-pos)∧k=((8*i-pos:Nat):Int)∧a=i) (fun(x,k,a)=>len-a.toNat) hw hm ?_ ?_
 ·refine Cv.fold [5,6,7,8,9,10,11,12,13,14,15,16,17,18,19,20,21,22,23,24,25,26,27,28,29,30,31,32,33,34,35,36,37,38,39,40,41,42,43,44] 4 [] (by exact Nat.le_refl _) (by exact Nat.le_of_ble_eq_true rfl) (by rfl) (by cbv) ?_
  intro js;refine⟨(_,_,_),?_,js,rfl⟩
  exact⟨at',hp,hp2,ha,hacc.symm,hhave.symm,ha0.symm⟩
 ·rintro⟨x,k,a⟩ js ⟨i,hi1,hi2,hi3,hx,hk,hai⟩;cbv;split
  ·rename_i hlt;have hlt:8*i<pos+n:=by rw[qc,ko] at hlt;simp only[nc] at *;omega
   have hil:i<len:=by omega
   have hnext':=hnext i hil;have hbyte:=kaA hby i;have hbb:=kfE b hby i (by omega);simp only[nc] at hnext' hai;rw[←hai] at hnext';generalize hy:b.getD i 0=y at *;generalize ha1:((i+1:Nat):Int)=a1 at *;have hw1:vw .u64 y=y:=by simp only[qw];exact wrap_u64 hbyte.1 (by have:=hbyte.2;omega)
   have hw2:vw .u64 k=k:=by simp only[nc] at *;simp only[qw];exact wrap_u64 (by omega) (by omega)
   have hk0:0≤vw .u64 k:=by rw[hw2];simp only[nc] at *;omega
   have hk1:vb .add .i64 k 8=((8*(i+1)-pos:Nat):Int):=by simp only[nc] at *;rw[qb,kh (by omega) (by omega)];omega
   have hval:vb .or .u64 x (vb .shl .u64 (vw .u64 y) (vw .u64 k))=kK (ja b) pos (8*(i+1)-pos):=by
    have hbd:=jd (ja b) (kaB b) pos (8*i-pos);have hp56:=kbI (show 8*i-pos≤56 by omega);have hpp:(0:Int)<2^(8*i-pos):=Int.pow_pos (by decide);have hkn:k.toNat=8*i-pos:=by simp only[nc] at *;omega
    have hyb:y*2^(8*i-pos)≤255*2^(8*i-pos):=Int.mul_le_mul_of_nonneg_right (by have:=hbyte.2;omega) (Int.le_of_lt hpp);have e:8*(i+1)-pos=(8*i-pos)+8:=by omega
    rw[hw1,hw2,qb,keC rfl hbyte.1 (by show k≤((64:Nat):Int);simp only[nc] at *;omega) (by rw[hkn];show _<(2:Int)^64;omega),hkn,hx,e,kaV];have e2:pos+(8*i-pos)=8*i:=by omega
    rw[e2,hbb,kgd rfl _ hbd.1 hbd.2 hbyte.1 (by show _<(2:Int)^64;omega)]
   cbv;refine ka (ρ:=[(1,.z),(2,.z),(3,.z)]) hnext' ⟨by rfl,by rfl,by rfl,by cbv;exact⟨kd _,trivial⟩⟩ ?_
   rintro v H R js ⟨rfl,rfl,rfl⟩;have e4:vnotB true=false:=by simp only[qnotB];rfl
   cbv;rw[e4];cbv;refine⟨⟨hk0⟩,?_⟩
   refine Cv.fold [5,6,7,8,9,10,11,12,13,14,15,16,17,18,19,20,21,22,23,24,25,26,27,28,29,30,31,32,33,34,35,36,37,38,39,40,41,42,43,44] 4 [] (by exact Nat.le_refl _) (by exact Nat.le_of_ble_eq_true rfl) (by rfl) (by cbv) ?_
   intro js;refine⟨(_,_,_),?_,js,rfl⟩
   exact⟨⟨i+1,by omega,by omega,by omega,hval,hk1,ha1.symm⟩,by show len-a1.toNat<len-a.toNat;simp only[nc] at *;omega⟩
  ·rename_i hge;have hge:pos+n≤8*i:=by rw[qc,kb] at hge;simp only[nc] at *;omega
   cbv;refine⟨i,hge,hi2,hi3,?_⟩
   rw[hx,hk,hai];rfl
set_option maxHeartbeats 4000000 in
theorem kl7 (b:List Int) (pos at' cap n:Nat) (hby:∀x∈b,isByte x) (hl:b.length≤2^50) (hp:pos≤8*at') (hp2:8*at'≤pos+63) (ha:at'≤b.length) (hn:n≤56) (hen:8*b.length<pos+n) :
  Con Try.prog 123 [.ptr 0 .z 4 0,.int .i64 n] [(.one 215 [.fn 121 [.ptr 1 .z 1 0,.ptr 2 .z 1 0],.int .u64 (kK (ja b) pos (8*at'-pos)),.int .i64 (((8*at'-pos:Nat):Int)),.fn 122 [.ptr 2 .z 1 0,.ptr 1 .z 1 0]]),.one 3 [.int .i64 at'],.one 25 [.slice 3 .z 1 b.length cap],.ro .u8 b]
   (fun v H R=>v=.bool false∧R=[]∧H=[(.one 215 [.fn 121 [.ptr 1 .z 1 0,.ptr 2 .z 1 0],.int .u64 (kK (ja b) pos (8*b.length-pos)),.int .i64 (((8*b.length-pos:Nat):Int)),.fn 122 [.ptr 2 .z 1 0,.ptr 1 .z 1 0]]),.one 3 [.int .i64 b.length],.one 25 [.slice 3 .z 1 b.length cap],.ro .u8 b]):=by
 have hnext:=fun a h=>kjA b a cap h (by omega)
 have hend:=kl6 b cap (by omega);refine kV 4 (by simp) (jJ [] (kl kD knR ?_))
 intro vb vc vw _ _ _ _ _ _ _ _ _ _ _ _ _ _ _ _ vnotB _ hw qb qc qw _ _ _ _ _ _ _ _ _ _ _ _ _ _ _ _ qnotB _;have hm:=kD;generalize Try.prog=P at *;generalize hacc:kK (ja b) pos (8*at'-pos)=acc;generalize hhave:((8*at'-pos:Nat):Int)=have0;generalize hacc2:kK (ja b) pos (8*b.length-pos)=acc2;generalize hhave2:((8*b.length-pos:Nat):Int)=have2;generalize ha0:((at':Nat):Int)=a0;generalize hn0:((n:Nat):Int)=n0;generalize hlI:((b.length:Nat):Int)=lI at *;generalize hlen:b.length=len at *;cbv;refine kv (α:=Int×Int×Int) [5,6,7,8,9,10,11,12,13,14,15,16,17,18,19,20,21,22,23,24,25,26,27,28,29,30,31,32,33,34,35,36,37,38,39,40,41,42,43,44] []
  (fun(x,k,a)=>[]) (fun(x,k,a)=>[(0,(.one 215 [.fn 121 [.ptr 1 .z 1 0,.ptr 2 .z 1 0],.int .u64 (x),.int .i64 (k),.fn 122 [.ptr 2 .z 1 0,.ptr 1 .z 1 0]])),(1,.one 3 [.int .i64 a])])
  (fun(x,k,a)=>∃i:Nat,pos≤8*i∧8*i≤pos+63∧i≤len∧x=kK (ja b) pos (8*i-pos)∧k=((8*i-pos:Nat):Int)∧a=i) (fun(x,k,a)=>len-a.toNat) hw hm ?_ ?_
 ·refine Cv.fold [5,6,7,8,9,10,11,12,13,14,15,16,17,18,19,20,21,22,23,24,25,26,27,28,29,30,31,32,33,34,35,36,37,38,39,40,41,42,43,44] 4 [] (by exact Nat.le_refl _) (by exact Nat.le_of_ble_eq_true rfl) (by rfl) (by cbv) ?_
  intro js;refine⟨(_,_,_),?_,js,rfl⟩
  exact⟨at',hp,hp2,ha,hacc.symm,hhave.symm,ha0.symm⟩
 ·rintro⟨x,k,a⟩ js ⟨i,hi1,hi2,hi3,hx,hk,hai⟩;have hc:vc .lss k n0=true:=by rw[qc,ko];simp only[nc] at *;omega
  cbv;rw[hc];by_cases hil:i<len
  ·have hnext':=hnext i hil;have hbyte:=kaA hby i;have hbb:=kfE b hby i (by omega);simp only[nc] at hnext' hai;rw[←hai] at hnext';generalize hy:b.getD i 0=y at *;generalize ha1:((i+1:Nat):Int)=a1 at *;have hw1:vw .u64 y=y:=by simp only[qw];exact wrap_u64 hbyte.1 (by have:=hbyte.2;omega)
   have hw2:vw .u64 k=k:=by simp only[nc] at *;simp only[qw];exact wrap_u64 (by omega) (by omega)
   have hk0:0≤vw .u64 k:=by rw[hw2];simp only[nc] at *;omega
   have hk1:vb .add .i64 k 8=((8*(i+1)-pos:Nat):Int):=by simp only[nc] at *;rw[qb,kh (by omega) (by omega)];omega
   have hval:vb .or .u64 x (vb .shl .u64 (vw .u64 y) (vw .u64 k))=kK (ja b) pos (8*(i+1)-pos):=by
    have hbd:=jd (ja b) (kaB b) pos (8*i-pos);have hp56:=kbI (show 8*i-pos≤56 by omega);have hpp:(0:Int)<2^(8*i-pos):=Int.pow_pos (by decide);have hkn:k.toNat=8*i-pos:=by simp only[nc] at *;omega
    have hyb:y*2^(8*i-pos)≤255*2^(8*i-pos):=Int.mul_le_mul_of_nonneg_right (by have:=hbyte.2;omega) (Int.le_of_lt hpp);have e:8*(i+1)-pos=(8*i-pos)+8:=by omega
    rw[hw1,hw2,qb,keC rfl hbyte.1 (by show k≤((64:Nat):Int);simp only[nc] at *;omega) (by rw[hkn];show _<(2:Int)^64;omega),hkn,hx,e,kaV];have e2:pos+(8*i-pos)=8*i:=by omega
    rw[e2,hbb,kgd rfl _ hbd.1 hbd.2 hbyte.1 (by show _<(2:Int)^64;omega)]
   cbv;refine ka (ρ:=[(1,.z),(2,.z),(3,.z)]) hnext' ⟨by rfl,by rfl,by rfl,by cbv;exact⟨kd _,trivial⟩⟩ ?_
   rintro v H R js ⟨rfl,rfl,rfl⟩;have e4:vnotB true=false:=by simp only[qnotB];rfl
   cbv;rw[e4];cbv;refine⟨⟨hk0⟩,?_⟩
   refine Cv.fold [5,6,7,8,9,10,11,12,13,14,15,16,17,18,19,20,21,22,23,24,25,26,27,28,29,30,31,32,33,34,35,36,37,38,39,40,41,42,43,44] 4 [] (by exact Nat.le_refl _) (by exact Nat.le_of_ble_eq_true rfl) (by rfl) (by cbv) ?_
   intro js;refine⟨(_,_,_),?_,js,rfl⟩
   exact⟨⟨i+1,by omega,by omega,by omega,hval,hk1,ha1.symm⟩,by show len-a1.toNat<len-a.toNat;simp only[nc] at *;omega⟩
  ·have hil:i=len:=by omega
   have e4:vnotB false=true:=by simp only[qnotB];rfl
   have hai2:a=lI:=by rw[hai,hil];exact hlI
   have hx2:x=acc2:=by rw[hx,hil,hacc2]
   have hk2:k=have2:=by rw[hk,hil];exact hhave2
   rw[hai2,hx2,hk2];cbv;refine ka (ρ:=[(1,.z),(2,.z),(3,.z)]) hend ⟨by rfl,by rfl,by rfl,by cbv;exact⟨kd _,trivial⟩⟩ ?_
   rintro v H R js ⟨rfl,rfl,rfl⟩;cbv;rw[e4];cbv
theorem koa (b:List Int) (pos at' cap:Nat) (n:Int) (hn:¬(0≤n∧n≤56)) :
  Con Try.prog 100 [.ptr 0 .z 4 0,.int .i64 n] [(.one 215 [.fn 121 [.ptr 1 .z 1 0,.ptr 2 .z 1 0],.int .u64 (kK (ja b) pos (8*at'-pos)),.int .i64 (((8*at'-pos:Nat):Int)),.fn 122 [.ptr 2 .z 1 0,.ptr 1 .z 1 0]]),.one 3 [.int .i64 at'],.one 25 [.slice 3 .z 1 b.length cap],.ro .u8 b]
   (fun v H R=>v=.tup [.lit .u64 0,.lit .i64 2]∧R=[]∧H=[(.one 215 [.fn 121 [.ptr 1 .z 1 0,.ptr 2 .z 1 0],.int .u64 (kK (ja b) pos (8*at'-pos)),.int .i64 (((8*at'-pos:Nat):Int)),.fn 122 [.ptr 2 .z 1 0,.ptr 1 .z 1 0]]),.one 3 [.int .i64 at'],.one 25 [.slice 3 .z 1 b.length cap],.ro .u8 b]):=by
 refine kl kD klS ?_
 intro _ vc _ _ _ _ _ _ _ _ _ _ _ _ _ _ _ _ _ _ _ _ _ qc _ _ _ _ _ _ _ _ _ _ _ _ _ _ _ _ _ _ _;generalize Try.prog=P at *;generalize hacc:kK (ja b) pos (8*at'-pos)=acc at *;generalize hhave:((8*at'-pos:Nat):Int)=have0 at *;generalize ha0:((at':Nat):Int)=a0 at *;generalize b.length=len at *;cbv;generalize h1:vc .lss n 0=z1;cases z1
 ·cbv;have h2:vc .gtr n 56=true:=by rw[qc,kb] at h1;rw[qc,kC];omega
  rw[h2];cbv
 ·cbv
theorem kl8 (b:List Int) (pos at' cap n:Nat) (hby:∀x∈b,isByte x) (hl:b.length≤2^50) (hp:pos≤8*at') (hp2:8*at'≤pos+63) (ha:at'≤b.length) (hn:n≤56) (hen:8*b.length<pos+n) :
  Con Try.prog 100 [.ptr 0 .z 4 0,.int .i64 n] [(.one 215 [.fn 121 [.ptr 1 .z 1 0,.ptr 2 .z 1 0],.int .u64 (kK (ja b) pos (8*at'-pos)),.int .i64 (((8*at'-pos:Nat):Int)),.fn 122 [.ptr 2 .z 1 0,.ptr 1 .z 1 0]]),.one 3 [.int .i64 at'],.one 25 [.slice 3 .z 1 b.length cap],.ro .u8 b]
   (fun v H R=>v=.tup [.lit .u64 0,.lit .i64 10]∧R=[]∧H=[(.one 215 [.fn 121 [.ptr 1 .z 1 0,.ptr 2 .z 1 0],.int .u64 (kK (ja b) (pos) (8*b.length-(pos))),.int .i64 (((8*b.length-(pos):Nat):Int)),.fn 122 [.ptr 2 .z 1 0,.ptr 1 .z 1 0]]),.one 3 [.int .i64 b.length],.one 25 [.slice 3 .z 1 b.length cap],.ro .u8 b]):=by
 have hfill:=kl7 b pos at' cap n hby hl hp hp2 ha hn hen;refine kl kD klS ?_
 intro _ vc _ _ _ _ _ _ _ _ _ _ _ _ _ _ _ _ _ vnotB _ _ _ qc _ _ _ _ _ _ _ _ _ _ _ _ _ _ _ _ _ qnotB _;generalize Try.prog=P at *;generalize hacc2:kK (ja b) pos (8*b.length-pos)=acc2 at *;generalize hhave2:((8*b.length-pos:Nat):Int)=have2 at *;generalize hlI:((b.length:Nat):Int)=lI at *;generalize hacc:kK (ja b) pos (8*at'-pos)=acc at *;generalize hhave:((8*at'-pos:Nat):Int)=have0 at *;generalize ha0:((at':Nat):Int)=a0 at *;generalize hn0:((n:Nat):Int)=n0 at *;generalize b.length=len at *;cbv;have e1:vc .lss n0 0=false:=by rw[qc,kb];simp only[nc] at *;omega
 have e2:vc .gtr n0 56=false:=by rw[qc,kx];simp only[nc] at *;omega
 have e4:vnotB false=true:=by simp only[qnotB];rfl
 rw[e1];cbv;rw[e2];cbv;refine ka (ρ:=[(0,.z),(1,.z),(2,.z),(3,.z)]) hfill ⟨by rfl,by rfl,by rfl,by cbv;exact⟨kd _,trivial⟩⟩ ?_
 rintro v H R js ⟨rfl,rfl,rfl⟩;cbv;rw[e4];cbv
theorem koT (b:List Int) (pos at' cap n:Nat) (hby:∀x∈b,isByte x) (hl:b.length≤2^50) (hp:pos≤8*at') (hp2:8*at'≤pos+63) (ha:at'≤b.length) (hn:n≤56) (hen:pos+n≤8*b.length) :
  Con Try.prog 100 [.ptr 0 .z 4 0,.int .i64 n] [(.one 215 [.fn 121 [.ptr 1 .z 1 0,.ptr 2 .z 1 0],.int .u64 (kK (ja b) pos (8*at'-pos)),.int .i64 (((8*at'-pos:Nat):Int)),.fn 122 [.ptr 2 .z 1 0,.ptr 1 .z 1 0]]),.one 3 [.int .i64 at'],.one 25 [.slice 3 .z 1 b.length cap],.ro .u8 b]
   (fun v H R=>v=.tup [.int .u64 (kK (ja b) pos n),.lit .i64 0]∧R=[]∧∃a2:Nat,pos+n≤8*a2∧8*a2≤pos+n+63∧a2≤b.length∧H=[(.one 215 [.fn 121 [.ptr 1 .z 1 0,.ptr 2 .z 1 0],.int .u64 (kK (ja b) (pos+n) (8*a2-(pos+n))),.int .i64 (((8*a2-(pos+n):Nat):Int)),.fn 122 [.ptr 2 .z 1 0,.ptr 1 .z 1 0]]),.one 3 [.int .i64 a2],.one 25 [.slice 3 .z 1 b.length cap],.ro .u8 b]):=by
 have hfill:=knb b pos at' cap n hby hl hp hp2 ha hn hen;refine kl kD klS ?_
 intro vb vc vw _ _ _ _ _ _ _ _ _ _ _ _ _ _ _ _ vnotB _ _ qb qc qw _ _ _ _ _ _ _ _ _ _ _ _ _ _ _ _ qnotB _;generalize Try.prog=P at *;generalize hacc:kK (ja b) pos (8*at'-pos)=acc at *;generalize hhave:((8*at'-pos:Nat):Int)=have0 at *;generalize ha0:((at':Nat):Int)=a0 at *;generalize hn0:((n:Nat):Int)=n0 at *;generalize hX:kK (ja b) pos n=X;generalize b.length=len at *;cbv;have e1:vc .lss n0 0=false:=by rw[qc,kb];simp only[nc] at *;omega
 have e2:vc .gtr n0 56=false:=by rw[qc,kx];simp only[nc] at *;omega
 have e4:vnotB true=false:=by simp only[qnotB];rfl
 have hwn:vw .u64 n0=n0:=by simp only[nc] at *;simp only[qw];exact wrap_u64 (by omega) (by omega)
 have hnn:0≤vw .u64 n0:=by rw[hwn];simp only[nc] at *;omega
 rw[e1];cbv;rw[e2];cbv;simp only[nc] at hfill;refine ka (ρ:=[(0,.z),(1,.z),(2,.z),(3,.z)]) hfill ⟨by rfl,by rfl,by rfl,by cbv;exact⟨kd _,trivial⟩⟩ ?_
 rintro v H R js ⟨rfl,rfl,a2,h1,h2,h3,rfl⟩;generalize hacc2:kK (ja b) pos (8*a2-pos)=acc2;generalize hhave2:((8*a2-pos:Nat):Int)=have2;generalize hai2:((a2:Nat):Int)=ai2;have hbm:=kl5 (ja b) (kaB b) pos n (8*a2-pos-n);have hbd:=jd (ja b) (kaB b) pos (8*a2-pos);rw[show n+(8*a2-pos-n)=8*a2-pos by omega] at hbm;rw[hacc2,hX] at hbm;rw[hacc2] at hbd;have hlt64:acc2<2^64:=by
  have:(2:Int)^(8*a2-pos)≤2^64:=by exact_mod_cast Nat.pow_le_pow_right (by decide) (by omega)
  omega
 have hpn:=kbI hn;have hp0:(0:Int)<2^n:=Int.pow_pos (by decide);have hn00:n0.toNat=n:=by simp only[nc] at *;omega
 have hx:vb .and .u64 acc2 (vb .sub .u64 (vb .shl .u64 1 (vw .u64 n0)) 1)=X:=by
  have e1:vb .shl .u64 1 n0=2^n:=by
   rw[qb,keC rfl (by decide) (by show n0≤((64:Nat):Int);simp only[nc] at *;omega) (by rw[hn00];show _<(2:Int)^64;omega),hn00];omega
  have e2:vb .sub .u64 (2^n) 1=2^n-1:=by rw[qb];exact wrap_u64 (by omega) (by omega)
  rw[hwn,e1,e2,qb,keD (k:=.u64) rfl n (by show n≤64;omega) hbd.1 hlt64];exact hbm.1
 have hsh:vb .shr .u64 acc2 (vw .u64 n0)=kK (ja b) (pos+n) (8*a2-pos-n):=by
  rw[hwn,qb,kb9 (by show n0≤((64:Nat):Int);simp only[nc] at *;omega),hn00];exact hbm.2
 have hhs:vb .sub .i64 have2 n0=((8*a2-(pos+n):Nat):Int):=by
  simp only[nc] at *;rw[qb,ku (by omega) (by omega)];omega
 cbv;rw[e4];cbv;refine⟨⟨hnn⟩,⟨hnn⟩,?_⟩
 rw[hx,hsh,hhs];refine⟨rfl,a2,h1,by omega,h3,?_⟩
 rw[show 8*a2-pos-n=8*a2-(pos+n) by omega,←hai2];rfl
def rbX (b:List Int) (pos:Nat) (n:Int):Int:=if 0≤n∧n≤56∧pos+n≤8*b.length then kK (ja b) pos n.toNat else 0
def rbE (b:List Int) (pos:Nat) (n:Int):Int:=if 0≤n∧n≤56 then(if pos+n≤8*b.length then 0 else 10) else 2
def rbP (b:List Int) (pos:Nat) (n:Int):Nat:=if 0≤n∧n≤56∧pos+n≤8*b.length then pos+n.toNat else pos
theorem kkP (b:List Int) (pos at' cap:Nat) (n:Int) (hby:∀x∈b,isByte x) (hl:b.length≤2^50) (hp:pos≤8*at') (hp2:8*at'≤pos+63) (ha:at'≤b.length) :
  Con Try.prog 100 [.ptr 0 .z 4 0,.int .i64 n] [(.one 215 [.fn 121 [.ptr 1 .z 1 0,.ptr 2 .z 1 0],.int .u64 (kK (ja b) pos (8*at'-pos)),.int .i64 (((8*at'-pos:Nat):Int)),.fn 122 [.ptr 2 .z 1 0,.ptr 1 .z 1 0]]),.one 3 [.int .i64 at'],.one 25 [.slice 3 .z 1 b.length cap],.ro .u8 b]
   (fun v H R=>v=.tup [.int .u64 (rbX b pos n),.int .i64 (rbE b pos n)]∧R=[]∧∃a2:Nat,rbP b pos n≤8*a2∧8*a2≤rbP b pos n+63∧a2≤b.length∧H=[(.one 215 [.fn 121 [.ptr 1 .z 1 0,.ptr 2 .z 1 0],.int .u64 (kK (ja b) (rbP b pos n) (8*a2-(rbP b pos n))),.int .i64 (((8*a2-(rbP b pos n):Nat):Int)),.fn 122 [.ptr 2 .z 1 0,.ptr 1 .z 1 0]]),.one 3 [.int .i64 a2],.one 25 [.slice 3 .z 1 b.length cap],.ro .u8 b]):=by
 by_cases hn:0≤n∧n≤56
 ·obtain⟨m,rfl⟩:∃m:Nat,n=m:=⟨n.toNat,by omega⟩;by_cases hen:pos+m≤8*b.length
  ·have e1:rbX b pos m=kK (ja b) pos m:=by unfold rbX;rw[if_pos ⟨hn.1,hn.2,by omega⟩];rfl
   have e2:rbE b pos m=0:=by unfold rbE;rw[if_pos hn,if_pos (by omega)]
   have e3:rbP b pos m=pos+m:=by unfold rbP;rw[if_pos ⟨hn.1,hn.2,by omega⟩];rfl
   rw[e1,e2,e3];refine kw ((koT b pos at' cap m hby hl hp hp2 ha (by omega) hen).mono ?_)
   rintro v H R ⟨rfl,rfl,a2,h1,h2,h3,rfl⟩;exact⟨rfl,rfl,a2,h1,h2,h3,rfl⟩
  ·have e1:rbX b pos m=0:=by unfold rbX;rw[if_neg (by omega)]
   have e2:rbE b pos m=10:=by unfold rbE;rw[if_pos hn,if_neg (by omega)]
   have e3:rbP b pos m=pos:=by unfold rbP;rw[if_neg (by omega)]
   rw[e1,e2,e3];refine kw ((kl8 b pos at' cap m hby hl hp hp2 ha (by omega) (by omega)).mono ?_)
   rintro v H R ⟨rfl,rfl,rfl⟩;exact⟨rfl,rfl,b.length,by omega,by omega,Nat.le_refl _,rfl⟩
 ·have e1:rbX b pos n=0:=by unfold rbX;rw[if_neg (by omega)]
  have e2:rbE b pos n=2:=by unfold rbE;rw[if_neg hn]
  have e3:rbP b pos n=pos:=by unfold rbP;rw[if_neg (by omega)]
  rw[e1,e2,e3];refine kw ((koa b pos at' cap n hn).mono ?_)
  rintro v H R ⟨rfl,rfl,rfl⟩;exact⟨rfl,rfl,at',hp,hp2,ha,rfl⟩
theorem kkQ (b:List Int) (pos at' cap:Nat) (hl:b.length≤2^50) (hp:pos≤8*at') (ha:at'≤b.length) :
  Con Try.prog 101 [.ptr 0 .z 4 0] [(.one 215 [.fn 121 [.ptr 1 .z 1 0,.ptr 2 .z 1 0],.int .u64 (kK (ja b) pos (8*at'-pos)),.int .i64 (((8*at'-pos:Nat):Int)),.fn 122 [.ptr 2 .z 1 0,.ptr 1 .z 1 0]]),.one 3 [.int .i64 at'],.one 25 [.slice 3 .z 1 b.length cap],.ro .u8 b]
   (fun v H R=>v=.int .i64 (8*b.length-pos)∧R=[]∧H=[(.one 215 [.fn 121 [.ptr 1 .z 1 0,.ptr 2 .z 1 0],.int .u64 (kK (ja b) pos (8*at'-pos)),.int .i64 (((8*at'-pos:Nat):Int)),.fn 122 [.ptr 2 .z 1 0,.ptr 1 .z 1 0]]),.one 3 [.int .i64 at'],.one 25 [.slice 3 .z 1 b.length cap],.ro .u8 b]):=by
 have hleft:=kkO b at' cap ha hl;refine kl kD koJ ?_
 intro vb _ _ _ _ _ _ _ _ _ _ _ _ _ _ _ _ _ _ _ _ _ qb _ _ _ _ _ _ _ _ _ _ _ _ _ _ _ _ _ _ _ _;generalize Try.prog=P at *;generalize hr:8*((b.length:Int)-at')=r at *;generalize hacc:kK (ja b) pos (8*at'-pos)=acc at *;generalize hhave:((8*at'-pos:Nat):Int)=have0 at *;generalize ha0:((at':Nat):Int)=a0 at *;generalize hL:(8*(b.length:Int)-pos)=L;generalize hlen:b.length=len at *;have e1:vb .add .i64 have0 r=L:=by rw[qb,kh (by omega) (by omega)];omega
 cbv;refine ka (ρ:=[(1,.z),(2,.z),(3,.z)]) hleft ⟨by rfl,by rfl,by rfl,by cbv;exact⟨kd _,trivial⟩⟩ ?_
 rintro v H R js ⟨rfl,rfl,rfl⟩;cbv;rw[e1];exact⟨rfl,trivial⟩
theorem kl9 (b:List Int) (cap:Nat) (hl:b.length≤140737488355328):Con Try.prog 99 [.slice 0 .z 1 b.length cap] [.ro .u8 b]
  (fun v H R=>v=.ptr 4 .z 4 0∧R=[1]∧∃c,H=[.ro .u8 b,.buf 5 .u8 b c,.one 25 [.slice 1 .z 1 b.length c],.one 3 [.int .i64 0],.one 215 [.fn 121 [.ptr 3 .z 1 0,.ptr 2 .z 1 0],.int .u64 0,.int .i64 0,.fn 122 [.ptr 2 .z 1 0,.ptr 3 .z 1 0]]]):=by
 refine kw (kl kD kpn ?_)
 intro _ _ _ _ _ vaddN _ _ _ _ _ _ _ _ vsub vonto _ _ _ _ _ _ _ _ _ _ _ qaddN _ _ _ _ _ _ qln _ qsub qonto _ _ _ _ _;generalize Try.prog=P at *;generalize hlen:b.length=len at *;have ha:vaddN 0 len=len:=by simp only[qaddN,Nat.zero_add]
 have hpay:vonto [] 0 (vsub b 0 len)=b:=by simp only[qonto,qsub];simp[←hlen]
 cbv;refine⟨⟨by rw[ha];simp only[qln];omega⟩,⟨Nat.zero_le _⟩,⟨Nat.zero_le _⟩,⟨by rw[ha];omega⟩,?_⟩
 intro c1 js1 hle;cbv;rw[ha,hpay];exact⟨c1,rfl⟩
set_option maxHeartbeats 2000000 in
theorem kma (bs:List Int) (c:Nat) (x:Int) (n:Nat) (hn:n≤56) (hx:0≤x∧x<2^64) (hb:∀b∈bs,kT b) (hl:bs.length≤2^40) :
  Con Try.prog 96 [.ptr 0 .z 2 0,.int .u64 x,.int .i64 n] [.one 184 [.slice 1 .z 1 (pack bs).length c,.int .i64 bs.length],.buf 5 .u8 (pack bs) c]
   (fun v H R=>v=.lit .i64 0∧R=[1]∧∃c',H=[.one 184 [.slice 1 .z 1 (pack (bs++kr x n)).length c',.int .i64 (bs++kr x n).length],.buf 5 .u8 (pack (bs++kr x n)) c']):=by
 refine kV 2 (by simp) (jJ [1] (kl kD kn5 ?_))
 intro vb vc vw vtoN _ vaddN _ _ _ _ _ _ vln _ vsub vonto _ _ _ vnotB _ hw qb qc qw _ _ qaddN _ _ _ _ _ qst _ _ _ _ _ _ _ _ _;have hm:=kD;have f37:=koN;have f43:=koP;generalize Try.prog=P at *;generalize hl0:pack bs=l0;generalize hm0:(bs.length:Int)=m0;generalize hn0:(n:Int)=n0;generalize hlen0:l0.length=len0;cbv;have e1:vc .lss n0 0=false:=by subst_vars;try simp only[nc] at *;simp[cV]
 have e2:vc .gtr n0 56=false:=by subst_vars;try simp only[nc] at *;simp[cV];omega
 rw[e1];cbv;rw[e2];cbv;refine kat hw hm f37 (by rfl) ?_
 cbv;intro js;refine kaP (by rfl) (by rfl) (by cbv) (by cbv) (by rfl) ?_
 refine kat hw hm f43 (by rfl) ?_
 cbv;refine kv (α:=Int×Int×Int×List Int×Nat×Nat) [4,5,6,7,8,9,10,11,12,13,14,15] [1]
  (fun(xx,nn,mk,l,len,c)=>[]) (fun(xx,nn,mk,l,len,c)=>[(0,.one 184 [.slice 1 .z 1 len c,.int .i64 mk]),(1,.buf 5 .u8 l c),(3,.one 76 [.int .u64 xx]),(4,.one 3 [.int .i64 nn])])
  (fun(xx,nn,mk,l,len,c)=>∃i:Nat,xx=x / 2^i∧nn=(n:Int)-i∧i≤n∧mk=(bs++kr x i).length∧l=pack (bs++kr x i)∧len=l.length) (fun(xx,nn,_)=>nn.toNat) hw hm ?_ ?_
 ·refine Cv.fold [4,5,6,7,8,9,10,11,12,13,14,15] 7 [1] (by exact Nat.le_refl _) (by exact Nat.le_of_ble_eq_true rfl) (by rfl) (by cbv) ?_
  intro js;refine⟨(_,_,_,_,_,_),?_,js,rfl⟩
  refine⟨0,?_,?_,by omega,?_,?_,?_⟩
  ·rw[Int.pow_zero,Int.ediv_one]
  ·simp only[nc] at *;omega
  ·subst_vars;try simp only[nc] at *;simp[kaU]
  ·subst_vars;try simp only[nc] at *;simp[kaU]
  ·exact hlen0.symm
 ·rintro⟨xx,nn,mk,l,len,c⟩ js ⟨i,hxx,hnn1,hi,hmk,hl',hlen⟩;have hbs:∀b∈bs++kr x i,kT b:=fun b h=>(List.mem_append.1 h).elim (hb b) (kX x i b)
  have hlb:(bs++kr x i).length≤2^40+56:=by simp[kg];omega
  generalize hBS:bs++kr x i=BS at *;have hll:l.length=(BS.length+7) / 8:=by rw[hl',kF]
  have hx0:0≤xx∧xx<2^64:=by
   have h1:0≤x / 2^i:=Int.ediv_nonneg hx.1 (Int.le_of_lt (Int.pow_pos (by decide)));have h2:x / 2^i≤x:=Int.ediv_le_self _ hx.1;omega
  cbv;split
  ·rename_i hlt;have hlt:i<n:=by rw[qc,kC] at hlt;simp only[nc] at *;omega
   have hx1:vb .shr .u64 xx 1=x / 2^(i+1):=by
    rw[qb,kb9 (by decide),hxx,Int.ediv_ediv_of_nonneg (Int.le_of_lt (Int.pow_pos (by decide))),Int.pow_succ];rfl
   have hn1:vb .sub .i64 nn 1=(n:Int)-((i+1:Nat):Int):=by simp only[nc] at *;rw[qb,ku (by omega) (by omega)];omega
   have hmu:(vb .sub .i64 nn 1).toNat<nn.toNat:=by rw[hn1,hnn1];simp only[nc] at *;omega
   have hbit:vw .u8 (vb .and .u64 xx 1)=x / 2^i % 2:=by
    rw[qb,and_one rfl hx0.1 (by show _<(2:Int)^64;omega),hxx];simp only[qw];exact wrap_u8 (by omega) (by omega)
   generalize hbb:x / 2^i % 2=bit at *;have hbi:kT bit:=by rw[←hbb];exact kdg _
   have hnext:bs++kr x (i+1)=BS++[bit]:=by rw[keJ,←List.append_assoc,hBS,hbb]
   have hrem:vb .rem .i64 mk 8=mk % 8:=by subst_vars;try simp only[nc] at *;exact kcD (by omega)
   have hquo:vtoN (vb .quo .i64 mk 8)=BS.length / 8:=by
    subst_vars
    try simp only[nc] at *
    rw[j6 (by omega) (by omega) (by omega)];show Int.toNat _=_
    omega
   have hmodw:vw .u64 (mk % 8)=mk % 8:=by rw[qw];simp only[nc] at *;exact wrap_u64 (by omega) (by omega)
   have hpack:(room BS).set (BS.length / 8) (bV .or .u8 ((room BS).getD (BS.length / 8) 0) (bV .shl .u8 bit (mk % 8)))=pack (BS++[bit]):=by
    have:=kfA BS bit mk hbs hbi hmk;have e:(mk / 8).toNat=BS.length / 8:=by simp only[nc] at *;omega
    rw[e] at this;exact this
   have hd8:BS.length / 8<(room BS).length:=by rw[kdF];omega
   cbv;refine kaQ hw hm (by rfl) ?_
   cbv;split
   ·rename_i hr8;have h8:BS.length % 8=0:=by rw[hrem,qc,kJ] at hr8;simp only[nc] at *;omega
    have hroom:room BS=l++[0]:=by rw[room,if_pos h8,hl']
    have hsub:vsub [0] 0 1=[0]:=by subst_vars;rfl
    have honto:vonto l len [0]=room BS:=by rw[hroom];subst_vars;simp
    have hin:0≤vb .quo .i64 mk 8∧vb .quo .i64 mk 8<(vaddN len 1:Nat):=by
     have hq:vb .quo .i64 mk 8=mk / 8:=by subst_vars;simp only[nc] at *;rw[j6 (by omega) (by omega) (by omega)]
     rw[hq];subst_vars;simp only[nc] at *;omega
    have hlt2:vtoN (vb .quo .i64 mk 8)<vln (vonto l len (vsub [0] 0 1)):=by rw[hquo,hsub,honto];subst_vars;simp only[nc] at *;omega
    have hlt3:vaddN 0 (vtoN (vb .quo .i64 mk 8))<vln (vonto l len (vsub [0] 0 1)):=by rw[qaddN];simpa using hlt2
    have hnn:0≤vw .u64 (vb .rem .i64 mk 8):=by rw[hrem];subst_vars;simp only[nc] at *;rw[wrap_u64 (by omega) (by omega)];omega
    cbv;refine⟨⟨?_⟩,⟨?_⟩,⟨?_⟩,⟨?_⟩,?_⟩
    ·subst_vars;decide
    ·subst_vars;exact Nat.le_refl _
    ·exact Nat.le_refl _
    ·subst_vars;simp only[nc] at *;omega
    intro c1 js1 hle;cbv;refine⟨⟨hin⟩,⟨hlt3⟩,⟨hlt2⟩,⟨hnn⟩,⟨hin⟩,⟨hlt3⟩,⟨hlt2⟩,?_⟩
    intro js1;cbv;have e3:vnotB true=false:=by subst_vars;rfl
    rw[e3];cbv;refine Cv.fold [4,5,6,7,8,9,10,11,12,13,14,15] 7 [1] (by exact Nat.le_refl _) (by exact Nat.le_of_ble_eq_true rfl) (by rfl) (by cbv) ?_
    intro js;refine⟨(_,_,_,_,_,_),?_,js,rfl⟩
    refine⟨⟨i+1,hx1,hn1,by omega,?_,?_,?_⟩,hmu⟩
    ·rw[qb,kh (by simp only[nc] at *;omega) (by simp only[nc] at *;omega),hnext];simp only[nc,List.length_append] at *;simp;omega
    ·rw[hsub,honto,hbit,hquo,hrem,hmodw,hnext,←hpack];subst_vars;rfl
    ·rw[hsub,honto,qst];simp only[List.length_set];rw[hroom];subst_vars;simp
   ·rename_i hr8;have h8:BS.length % 8≠0:=by rw[hrem,qc,ky] at hr8;simp only[nc] at *;omega
    have hroom:room BS=l:=by rw[room,if_neg h8,hl']
    have hin:0≤vb .quo .i64 mk 8∧vb .quo .i64 mk 8<len:=by
     have hq:vb .quo .i64 mk 8=mk / 8:=by subst_vars;simp only[nc] at *;rw[j6 (by omega) (by omega) (by omega)]
     rw[hq];rw[hroom] at hd8;subst_vars;simp only[nc] at *;omega
    have hlt2:vtoN (vb .quo .i64 mk 8)<vln l:=by rw[hquo];rw[hroom] at hd8;subst_vars;simp only[nc] at *;omega
    have hlt3:vaddN 0 (vtoN (vb .quo .i64 mk 8))<vln l:=by rw[qaddN];simpa using hlt2
    have hnn:0≤vw .u64 (vb .rem .i64 mk 8):=by rw[hrem];subst_vars;simp only[nc] at *;rw[wrap_u64 (by omega) (by omega)];omega
    cbv;refine⟨⟨hin⟩,⟨hlt3⟩,⟨hlt2⟩,⟨hnn⟩,⟨hin⟩,⟨hlt3⟩,⟨hlt2⟩,?_⟩
    intro js1;cbv;have e3:vnotB true=false:=by subst_vars;rfl
    rw[e3];cbv;refine Cv.fold [4,5,6,7,8,9,10,11,12,13,14,15] 7 [1] (by exact Nat.le_refl _) (by exact Nat.le_of_ble_eq_true rfl) (by rfl) (by cbv) ?_
    intro js;refine⟨(_,_,_,_,_,_),?_,js,rfl⟩
    refine⟨⟨i+1,hx1,hn1,by omega,?_,?_,?_⟩,hmu⟩
    ·rw[qb,kh (by simp only[nc] at *;omega) (by simp only[nc] at *;omega),hnext];simp only[nc,List.length_append] at *;simp;omega
    ·rw[hbit,hquo,hrem,hmodw,hnext,←hpack,hroom];subst_vars;rfl
    ·rw[qst];simp only[List.length_set];exact hlen
  ·rename_i hge;have hin:i=n:=by rw[qc,kx] at hge;simp only[nc] at *;omega
   subst hin;cbv;intro js1;cbv;refine⟨c,?_⟩
   subst_vars
   rfl
theorem kkR (bs:List Int) (c:Nat) (x n:Int) (hx:0≤x∧x<2^64) (hb:∀b∈bs,kT b) (hl:bs.length≤2^40) :
  Con Try.prog 96 [.ptr 0 .z 2 0,.int .u64 x,.int .i64 n] [.one 184 [.slice 1 .z 1 (pack bs).length c,.int .i64 bs.length],.buf 5 .u8 (pack bs) c]
   (fun v H R=>v=.int .i64 (j8 n)∧R=[1]∧∃c',H=[.one 184 [.slice 1 .z 1 (pack (k8 bs x n)).length c',.int .i64 (k8 bs x n).length],.buf 5 .u8 (pack (k8 bs x n)) c']):=by
 by_cases hn:0≤n∧n≤56
 ·obtain⟨m,rfl⟩:∃m:Nat,n=m:=⟨n.toNat,by omega⟩;refine kw ((kma bs c x m (by omega) hx hb hl).mono ?_)
  rintro v H R ⟨rfl,rfl,c',rfl⟩;have e:k8 bs x m=bs++kr x m:=by unfold k8;rw[if_pos hn];rfl
  have e2:j8 m=0:=by unfold j8;rw[if_pos hn]
  rw[e,e2];exact⟨rfl,rfl,c',rfl⟩
 ·have e:k8 bs x n=bs:=by unfold k8;rw[if_neg hn]
  have e2:j8 n=2:=by unfold j8;rw[if_neg hn]
  rw[e,e2];refine kw (kV 2 (by simp) (jJ [1] (kl kD kn5 ?_)))
  intro _ vc _ _ _ _ _ _ _ _ _ _ _ _ _ _ _ _ _ _ _ _ _ qc _ _ _ _ _ _ _ _ _ _ _ _ _ _ _ _ _ _ _;generalize Try.prog=P at *;generalize pack bs=l0 at *;generalize l0.length=len0 at *;generalize (bs.length:Int)=m0 at *;cbv;generalize h1:vc .lss n 0=z1;cases z1
  ·cbv;have h2:vc .gtr n 56=true:=by rw[qc,kb] at h1;rw[qc,kC];omega
   rw[h2];cbv;exact⟨c,rfl⟩
  ·cbv;exact⟨c,rfl⟩
theorem ki1 (bs:List Int) (c:Nat) (hl:bs.length≤2^40) :
  Con Try.prog 97 [.ptr 0 .z 2 0] [.one 184 [.slice 1 .z 1 (pack bs).length c,.int .i64 bs.length],.buf 5 .u8 (pack bs) c]
   (fun v H R=>R=[2]∧∃c',v=.slice 2 .z 1 (pack bs).length c'∧H=[.one 184 [.slice 1 .z 1 (pack bs).length c,.int .i64 bs.length],.buf 5 .u8 (pack bs) c,.buf 5 .u8 (pack bs) c']):=by
 have hpl:(pack bs).length≤2^40:=by rw[kF];omega
 refine jJ [2] (kl kD kpl ?_)
 intro _ _ _ _ _ vaddN _ _ _ _ _ _ _ _ vsub vonto _ _ _ _ _ _ _ _ _ _ _ qaddN _ _ _ _ _ _ qln _ qsub qonto _ _ _ _ _;generalize Try.prog=P at *;generalize pack bs=l0 at *;generalize hlen0:l0.length=len0 at *;generalize (bs.length:Int)=m0 at *;have ha:vaddN 0 len0=len0:=by simp only[qaddN,Nat.zero_add]
 have hpay:vonto [] 0 (vsub l0 0 len0)=l0:=by simp only[qonto,qsub];simp[←hlen0]
 cbv;refine⟨⟨by rw[ha];simp only[qln];omega⟩,⟨Nat.zero_le _⟩,⟨Nat.zero_le _⟩,⟨by rw[ha];omega⟩,?_⟩
 intro c1 js1 hle;cbv;rw[ha,hpay];exact⟨c1,rfl,rfl⟩
def RS (b:List Int) (pos:Nat) (acc hv ai:Int):Prop:=∃at':Nat,pos≤8*at'∧8*at'≤pos+63∧at'≤b.length∧acc=kK (ja b) pos (8*at'-pos)∧hv=((8*at'-pos:Nat):Int)∧ai=at'
theorem RS.start (b:List Int):RS b 0 0 0 0:=⟨0,by omega,by omega,by omega,rfl,rfl,rfl⟩
theorem kmb (b:List Int) (pos cap:Nat) (n acc hv ai:Int) (hby:∀x∈b,isByte x) (hl:b.length≤2^50) (h:RS b pos acc hv ai) :
  Con Try.prog 100 [.ptr 0 .z 4 0,.int .i64 n] [(.one 215 [.fn 121 [.ptr 1 .z 1 0,.ptr 2 .z 1 0],.int .u64 (acc),.int .i64 (hv),.fn 122 [.ptr 2 .z 1 0,.ptr 1 .z 1 0]]),.one 3 [.int .i64 ai],.one 25 [.slice 3 .z 1 b.length cap],.ro .u8 b]
   (fun v H R=>v=.tup [.int .u64 (rbX b pos n),.int .i64 (rbE b pos n)]∧R=[]∧∃acc2 hv2 ai2,RS b (rbP b pos n) acc2 hv2 ai2∧H=[(.one 215 [.fn 121 [.ptr 1 .z 1 0,.ptr 2 .z 1 0],.int .u64 (acc2),.int .i64 (hv2),.fn 122 [.ptr 2 .z 1 0,.ptr 1 .z 1 0]]),.one 3 [.int .i64 ai2],.one 25 [.slice 3 .z 1 b.length cap],.ro .u8 b]):=by
 obtain⟨at',h1,h2,h3,rfl,rfl,rfl⟩:=h;refine(kkP b pos at' cap n hby hl h1 h2 h3).mono ?_
 rintro v H R ⟨e1,e2,a2,e3,e4,e5,e6⟩;exact⟨e1,e2,_,_,_,⟨a2,e3,e4,e5,rfl,rfl,rfl⟩,e6⟩
theorem kmc (b:List Int) (pos cap:Nat) (acc hv ai:Int) (hl:b.length≤2^50) (h:RS b pos acc hv ai) :
  Con Try.prog 101 [.ptr 0 .z 4 0] [(.one 215 [.fn 121 [.ptr 1 .z 1 0,.ptr 2 .z 1 0],.int .u64 (acc),.int .i64 (hv),.fn 122 [.ptr 2 .z 1 0,.ptr 1 .z 1 0]]),.one 3 [.int .i64 ai],.one 25 [.slice 3 .z 1 b.length cap],.ro .u8 b]
   (fun v H R=>v=.int .i64 (8*b.length-pos)∧R=[]∧H=[(.one 215 [.fn 121 [.ptr 1 .z 1 0,.ptr 2 .z 1 0],.int .u64 (acc),.int .i64 (hv),.fn 122 [.ptr 2 .z 1 0,.ptr 1 .z 1 0]]),.one 3 [.int .i64 ai],.one 25 [.slice 3 .z 1 b.length cap],.ro .u8 b]):=by
 obtain⟨at',h1,h2,h3,rfl,rfl,rfl⟩:=h;exact kkQ b pos at' cap hl h1 h3
def km (c:Int):Int:=if c<0 then 1 else c
def jo (c:Int):Prop := -32768≤c∧c≤32767
def kW (l:List Int):Int:=(l.map km).sum
def jc (l:List Int) (log:Int):Prop:=5≤log∧log≤12∧1≤l.length∧l.length≤256∧l.getD (l.length-1) 0≠0∧(∀c∈l,-1≤c)∧kW l=2^log.toNat
instance (l:List Int) (log:Int):Decidable (jc l log):=by unfold jc;infer_instance
theorem jK (l:List Int) (c:Int):kW (l++[c])=kW l+km c:=by simp[kW]
theorem kbK {c:Int} (h:jo c):0≤km c∧km c≤32767:=by unfold km jo at *;split<;>omega
theorem knc {l:List Int} (h:∀c∈l,jo c):0≤kW l∧kW l≤32767*l.length:=by
 induction l with
 |nil=>simp[kW]
 |cons c l ih=>
  have h1:=kbK (h c (by simp));have h2:=ih (fun x hx=>h x (by simp[hx]));simp only[kW,List.map_cons,List.sum_cons,List.length_cons] at *;omega
theorem kbL (c:Int) (hc:jo c):Con Try.prog 94 [.int .i16 c] [] (fun v H R=>v=.int .i64 (km c)∧H=[]∧R=[]):=by
 refine kw (kl kD koI ?_)
 intro _ _ vw _ _ _ _ _ _ _ _ _ _ _ _ _ _ _ _ _ _ _ _ qc qw _ _ _ _ _ _ _ _ _ _ _ _ _ _ _ _ _ _;generalize Try.prog=P at *;have hp:km c=if c<0 then 1 else c:=rfl
 generalize km c=p at *;cbv;split
 ·rename_i h;rw[qc,ko] at h;cbv;rw[hp,if_pos h];exact⟨rfl,trivial⟩
 ·rename_i h;rw[qc,kb] at h;have e:vw .i64 c=c:=by unfold jo at hc;simp only[qw];exact wrap_i64 (by omega) (by omega)
  cbv;rw[e,hp,if_neg h];exact⟨rfl,trivial⟩
theorem kcG {x:Int} (h0:0≤x) (h1:x≤12):bV .shl .i64 1 x=2^x.toNat:=by
 obtain⟨n,rfl⟩:∃n:Nat,x=n:=⟨x.toNat,by omega⟩;have hn:n≤12:=by omega
 have:∀n:Fin 13,bV .shl .i64 1 ((n.1:Nat):Int)=2^((n.1:Nat):Int).toNat:=by decide
 exact this ⟨n,by omega⟩
set_option maxHeartbeats 2000000 in
theorem kdi (l:List Int) (log:Int) (cap:Nat) (hl:∀c∈l,jo c) (hlog : -9223372036854775808≤log∧log≤9223372036854775807) :
  Con Try.prog 93 [.slice 0 .z 1 l.length cap,.int .i64 log] [.ro .i16 l] (fun v H R=>v=.bool (decide (jc l log))∧H=[.ro .i16 l]∧R=[]):=by
 have hparts:=fun c h=>kbL c h
 refine kw (kl kD kpj ?_)
 intro vb vc vw vtoN vofN vaddN _ _ _ _ vgd _ vln _ _ _ _ _ _ _ _ hw qb qc qw qtoN qofN qaddN _ _ _ _ qgd _ qln _ _ _ _ _ _ _ _;have hm:=kD;generalize Try.prog=P at *;have hR:decide (jc l log)=true↔(5≤log∧log≤12∧1≤l.length∧l.length≤256∧l.getD (l.length-1) 0≠0∧(∀c∈l,-1≤c)∧kW l=2^log.toNat):=by
  rw[decide_eq_true_iff];exact Iff.rfl
 generalize decide (jc l log)=rb at *;have hRf:∀p:Prop,(rb=true→False)→rb=false:=fun _ h=>by cases rb with|false=>rfl|true=>exact(h rfl).elim
 have hl16:=hl;have hsum:∀i,0≤kW (l.take i)∧kW (l.take i)≤32767*i:=by
  intro i;have h1:=knc (l:=l.take i) (fun c hc=>hl c (List.mem_of_mem_take hc));have h2:(l.take i).length≤i:=by rw[List.length_take];omega
  omega
 generalize hn:l.length=n at *;cbv;generalize h1:vc .lss log 5=z1;cases z1
 rotate_left
 ·rw[qc,ko] at h1;cbv;rw[hRf True (fun h=>by have:=(hR.1 h).1;omega)];exact⟨rfl,trivial⟩
 rw[qc,kb] at h1;cbv;generalize h2:vc .gtr log 12=z2;cases z2
 rotate_left
 ·rw[qc,kC] at h2;cbv;rw[hRf True (fun h=>by have:=(hR.1 h).2.1;omega)];exact⟨rfl,trivial⟩
 rw[qc,kx] at h2;cbv;generalize h3:vc .eql (vofN n) 0=z3;cases z3
 rotate_left
 ·rw[qc,qofN,kJ] at h3;cbv;rw[hRf True (fun h=>by have:=(hR.1 h).2.2.1;simp only[nc] at *;omega)];exact⟨rfl,trivial⟩
 rw[qc,qofN,ky] at h3;cbv;generalize h4:vc .gtr (vofN n) 256=z4;cases z4
 rotate_left
 ·rw[qc,qofN,kC] at h4;cbv;rw[hRf True (fun h=>by have:=(hR.1 h).2.2.2.1;simp only[nc] at *;omega)];exact⟨rfl,trivial⟩
 rw[qc,qofN,kx] at h4;have hn1:vb .sub .i64 (vofN n) 1=((n-1:Nat):Int):=by simp only[nc] at *;simp only[qofN];rw[qb,ku (by omega) (by omega)];omega
 have hin1:0≤vb .sub .i64 (vofN n) 1∧vb .sub .i64 (vofN n) 1<n:=by rw[hn1];simp only[nc] at *;omega
 have hto1:vtoN (vb .sub .i64 (vofN n) 1)=n-1:=by rw[hn1];simp only[qtoN];omega
 have hlt1:n-1<vln l:=by simp only[qln];simp only[nc] at *;omega
 have hlt1':vaddN 0 (n-1)<vln l:=by simp only[qaddN,Nat.zero_add];exact hlt1
 have hld:vgd l (n-1)=l.getD (n-1) 0:=by simp only[qgd]
 cbv;rw[hto1];refine⟨⟨hin1⟩,⟨hlt1'⟩,⟨hlt1⟩,?_⟩
 generalize h5:vc .eql (vgd l (n-1)) 0=z5;cases z5
 rotate_left
 ·rw[qc,kJ,hld] at h5;cbv;rw[hRf True (fun h=>(hR.1 h).2.2.2.2.1 h5)];exact⟨rfl,trivial⟩
 rw[qc,ky,hld] at h5;cbv;refine kv (α:=Int×Int) [7,36,37,38,39,40,41,42,43,44,45] []
  (fun(k,m)=>[(35,.int .i64 k),(5,.int .i64 m)]) (fun(k,m)=>[])
  (fun(k,m)=>∃i:Nat,k=i∧i≤n∧m=kW (l.take i)∧∀c∈l.take i,-1≤c) (fun(k,_)=>n-k.toNat) hw hm ?_ ?_
 ·refine Cv.genAt [35,5] [] (Cv.fold [7,36,37,38,39,40,41,42,43,44,45] 1 [] (by exact Nat.le_refl _) (by exact Nat.le_of_ble_eq_true rfl) (by rfl) (by cbv) ?_)
  intro js;refine⟨(_,_),?_,js,rfl⟩
  exact⟨0,rfl,by omega,by simp[kW],by simp⟩
 ·rintro⟨k,m⟩ js ⟨i,hk,hi,hs,hall⟩;have hsi:=hsum i;cbv;split
  ·rename_i hlt;have hlt:i<n:=by rw[qc,ko] at hlt;simp only[qofN] at hlt;simp only[nc] at *;omega
   have hti:vtoN k=i:=by simp only[qtoN];simp only[nc] at *;omega
   have hin:0≤k∧k<(n:Int):=by simp only[nc] at *;omega
   have hlt2:i<vln l:=by simp only[qln];omega
   have hlt3:vaddN 0 i<vln l:=by simp only[qaddN,Nat.zero_add];exact hlt2
   have hil:i<l.length:=by omega
   have hgd:vgd l i=l.getD i 0:=by simp only[qgd]
   have hmem:l.getD i 0∈l:=by rw[List.getD_eq_getElem?_getD,List.getElem?_eq_getElem hil];exact List.getElem_mem hil
   have hc16:=hl16 _ hmem;have hpl:=kbK hc16;have hsn:kW (l.take (i+1))=m+km (l.getD i 0):=by rw[jw hil,jK,←hs]
   have hpc:=hparts _ hc16;have hk1:vb .add .i64 k 1=((i+1:Nat):Int):=by simp only[nc] at *;rw[qb,kh (by omega) (by omega)];omega
   have hmu:n-(vb .add .i64 k 1).toNat<n-k.toNat:=by rw[hk1,hk];simp only[nc] at *;omega
   rw[←hgd] at hpc hsn;have hadd:vb .add .i64 m (km (vgd l i))=m+km (vgd l i):=by simp only[nc] at *;rw[hgd];rw[qb,kh (by omega) (by omega)]
   generalize km (vgd l i)=pc at hpc hsn hadd;cbv;rw[hti];cbv;refine⟨⟨hin⟩,⟨hlt3⟩,⟨hlt2⟩,?_⟩
   generalize hcd:vgd l i=cd at *;split
   ·rename_i hlo;rw[qc,ko] at hlo;cbv;rw[hRf True (fun h=>by have:=(hR.1 h).2.2.2.2.2.1 _ hmem;rw[←hgd] at this;omega)];exact⟨rfl,trivial⟩
   ·rename_i hlo;rw[qc,kb] at hlo;cbv;refine ka (ρ:=[]) hpc ⟨by rfl,by rfl,by rfl,by cbv⟩ ?_
    rintro v H R js ⟨rfl,rfl,rfl⟩;cbv;rw[hadd];refine Cv.fold [7,36,37,38,39,40,41,42,43,44,45] 1 [] (by exact Nat.le_refl _) (by exact Nat.le_of_ble_eq_true rfl) (by rfl) (by cbv) ?_
    intro js;refine⟨(_,_),?_,js,rfl⟩
    refine⟨⟨i+1,hk1,hlt,hsn.symm,fun c hc=>?_⟩,hmu⟩
    rw[jw hil] at hc;rcases List.mem_append.1 hc with hc|hc
    ·exact hall c hc
    ·rw[List.mem_singleton.1 hc,←hgd];omega
  ·rename_i hge;have hin:i=n:=by rw[qc,kb] at hge;simp only[qofN] at hge;simp only[nc] at *;omega
   have hl0:l.take i=l:=List.take_of_length_le (by omega);rw[hl0] at hs hall;have hlg:vw .u64 log=log:=by simp only[qw];exact wrap_u64 (by omega) (by omega)
   have hnn:0≤vw .u64 log:=by rw[hlg];omega
   have hsh:vb .shl .i64 1 (vw .u64 log)=2^log.toNat:=by
    rw[hlg,qb,kcG (by omega) (by omega)]
   have hfin:vc .eql m (vb .shl .i64 1 (vw .u64 log))=rb:=by
    rw[hsh];cases hrb:rb
    ·rw[qc,ky];intro he;have:=hR.2 ⟨by omega,by omega,by simp only[nc] at *;omega,by simp only[nc] at *;omega,h5,hall,by rw[←hs];exact he⟩;rw[hrb] at this;cases this
    ·rw[qc,kJ];have:=(hR.1 hrb).2.2.2.2.2.2;rw[←hs] at this;exact this
   cbv;rw[hfin];exact⟨⟨hnn⟩,rfl,trivial⟩
def kB (x:Int):Int:=if x≤0 then 0 else(Nat.log2 x.toNat:Int)+1
theorem kgf {x:Int} {k:Nat} (h0:2^k≤x) (h1:x<2^(k+1)):kB x=k+1:=by
 have hp:(0:Int)<2^k:=Int.pow_pos (by omega);unfold kB;rw[if_neg (by omega)];obtain⟨n,rfl⟩:∃n:Nat,x=n:=⟨x.toNat,by omega⟩;have a:2^k≤n:=by exact_mod_cast h0
 have b:n<2^(k+1):=by exact_mod_cast h1
 have hn:n≠0:=by have:0<2^k:=Nat.pow_pos (by omega);omega
 have c1:n.log2<k+1:=(Nat.log2_lt hn).2 b;have c2:k≤n.log2:=(Nat.le_log2 hn).2 a;simp only[Int.toNat_natCast];omega
theorem jA {x:Int} (h:0<x):∃k:Nat,kB x=k+1∧2^k≤x∧x<2^(k+1):=by
 obtain⟨n,rfl⟩:∃n:Nat,x=n:=⟨x.toNat,by omega⟩;have hn:n≠0:=by omega
 refine⟨n.log2,?_,?_,?_⟩
 ·unfold kB;rw[if_neg (by omega)];simp
 ·exact_mod_cast (Nat.le_log2 hn).1 (Nat.le_refl _)
 ·exact_mod_cast (Nat.log2_lt hn).1 (Nat.lt_succ_self _)
theorem j1 {x:Int} (h:0<x):kB x=kB (x / 2)+1:=by
 obtain⟨k,h1,h2,h3⟩:=jA h;cases k with
 |zero=>
  have:x=1:=by omega
  subst this;rfl
 |succ k=>
  have e:kB (x / 2)=k+1:=kgf (by rw[Int.pow_succ] at h2;omega) (by rw[Int.pow_succ] at h3;omega);rw[h1,e];push_cast;omega
theorem khI {x:Int} (h:x≤0):kB x=0:=by unfold kB;rw[if_pos h]
theorem kaW {x:Int} {n:Nat} (h0:0≤x) (h:x<2^n):0≤kB x∧kB x≤n:=by
 rcases Int.lt_or_le 0 x with hx|hx
 ·obtain⟨k,h1,h2,h3⟩:=jA hx;have:k<n:=by
   apply Classical.byContradiction
   intro hk;have:(2:Int)^n≤2^k:=by exact_mod_cast Nat.pow_le_pow_right (by omega:0<2) (by omega:n≤k)
   omega
  omega
 ·rw[khI hx];omega
theorem kdX {x:Int} (h0:0≤x) (h:x<65536):0≤kB x∧kB x≤16:=kaW (n:=16) h0 h
theorem kmd {x:Int} (h0:0≤x) (h:x<256):0≤kB x∧kB x≤8:=kaW (n:=8) h0 h
set_option maxRecDepth 100000 in
theorem kdG (n:Fin 256):IntKind.i64.wrap (((UInt8.ofNat (lenTab.getD n.val 0).toNat).toNat:Nat):Int)=kB (n.val:Int):=by
 revert n
 decide +kernel
theorem keM {x:Int} (h:256≤x):kB x=8+kB (x / 256):=by
 have e:x / 256=x / 2 / 2 / 2 / 2 / 2 / 2 / 2 / 2:=by omega
 rw[e,j1 (x:=x) (by omega),j1 (x:=x / 2) (by omega),j1 (x:=x / 2 / 2) (by omega),j1 (x:=x / 2 / 2 / 2) (by omega),j1 (x:=x / 2 / 2 / 2 / 2) (by omega),
  j1 (x:=x / 2 / 2 / 2 / 2 / 2) (by omega),j1 (x:=x / 2 / 2 / 2 / 2 / 2 / 2) (by omega),j1 (x:=x / 2 / 2 / 2 / 2 / 2 / 2 / 2) (by omega)]
 omega
set_option maxRecDepth 100000 in
theorem kkS (x:Int) (hx:0≤x∧x<65536):Con Try.prog 106 [.int .u64 x] [] (fun v H R=>v=.int .i64 (kB x)∧H=[]∧R=[]):=by
 refine kw (kl kD knP ?_)
 intro vb vc vw vtoN _ _ _ _ _ _ vgd _ vln _ _ _ _ _ vbyteV _ _ _ qb qc qw qtoN _ _ _ _ _ _ qgd _ qln _ _ _ _ _ qbyteV _ _;have hm:=kD;generalize Try.prog=P at *;have hl:lenTab.length=256:=by rfl
 have key:∀y:Int,0≤y→y<256→vw .i64 (vbyteV (vgd lenTab (vtoN y)))=kB y:=by
  intro y h0 h1;obtain⟨n,rfl⟩:∃n:Nat,y=n:=⟨y.toNat,by omega⟩;rw[qw,qbyteV,qgd,qtoN];exact kdG ⟨n,by omega⟩
 have hb256:=@keM x;have hbr:=@kmd (x / 256) (by omega) (by omega);have hbx:=@kdX x (by omega) (by omega);have e1:kn6=(.seq (.ops [⟨(some 2),.mv (.k (.lit .i64 0)),none,[]⟩])
  (.seq (.seq (.ops [⟨(some 3),.mv (.t 0),none,[]⟩,
   ⟨(some 4),.cmp .geq (.t 3) (.k (.lit .u64 4294967296)),none,[]⟩])
  (.cond (.t 4) (.seq (.ops [⟨(some 5),.mv (.t 0),none,[]⟩,
   ⟨(some 6),.bin .shr .u64 (.t 5) (.k (.lit .u64 32)),none,[]⟩,
   ⟨(some 0),.mv (.t 6),none,[]⟩])
  (.ops [⟨(some 2),.mv (.k (.lit .i64 32)),none,[]⟩])) (.skip)))
  (.seq (.seq (.ops [⟨(some 7),.mv (.t 0),none,[]⟩,
   ⟨(some 8),.cmp .geq (.t 7) (.k (.lit .u64 65536)),none,[]⟩])
  (.cond (.t 8) (.seq (.ops [⟨(some 9),.mv (.t 0),none,[]⟩,
   ⟨(some 10),.bin .shr .u64 (.t 9) (.k (.lit .u64 16)),none,[]⟩,
   ⟨(some 0),.mv (.t 10),none,[]⟩])
  (.ops [⟨(some 11),.mv (.t 2),none,[]⟩,
   ⟨(some 12),.bin .add .i64 (.t 11) (.k (.lit .i64 16)),none,[]⟩,
   ⟨(some 2),.mv (.t 12),none,[]⟩])) (.skip)))
  (.seq (.seq (.ops [⟨(some 13),.mv (.t 0),none,[]⟩,
   ⟨(some 14),.cmp .geq (.t 13) (.k (.lit .u64 256)),none,[]⟩])
  (.cond (.t 14) (.seq (.ops [⟨(some 15),.mv (.t 0),none,[]⟩,
   ⟨(some 16),.bin .shr .u64 (.t 15) (.k (.lit .u64 8)),none,[]⟩,
   ⟨(some 0),.mv (.t 16),none,[]⟩])
  (.ops [⟨(some 17),.mv (.t 2),none,[]⟩,
   ⟨(some 18),.bin .add .i64 (.t 17) (.k (.lit .i64 8)),none,[]⟩,
   ⟨(some 2),.mv (.t 18),none,[]⟩])) (.skip)))
  (.seq (.ops [⟨(some 19),.mv (.t 2),none,[]⟩,
   ⟨(some 20),.mv (.t 0),none,[]⟩,
   ⟨(some 21),.conv .u8 (.t 20),none,[]⟩,
   ⟨(some 22),.idxS (.k (.str lenTab)) (.t 21),none,[]⟩,
   ⟨(some 23),.conv .i64 (.t 22),none,[]⟩,
   ⟨(some 24),.bin .add .i64 (.t 19) (.t 23),none,[]⟩,
   ⟨(some 2),.mv (.t 24),none,[]⟩])
  (.ret)))))):=rfl
 rw[e1];have hll:vln lenTab=256:=by rw[qln];exact hl
 generalize lenTab=T at *;have d1:vc .geq x 4294967296=false:=by rw[qc,k7];omega
 have d2:vc .geq x 65536=false:=by rw[qc,k7];omega
 generalize hbl:kB x=bl at *;generalize hbl2:kB (x / 256)=bl2 at *;cbv;rw[d1];cbv;rw[d2];cbv;generalize d3:vc .geq x 256=z;cases z
 ·rw[qc,k7] at d3;have w1:vw .u8 x=x:=by rw[qw];exact wrap_u8 (by omega) (by omega)
  have hk:=key x (by omega) (by omega);cbv;rw[w1,hk,hbl];refine⟨⟨?_⟩,?_,trivial⟩
  ·rw[hll];omega
  ·congr 1
   rw[qb,kh (by omega) (by omega)];omega
 ·rw[qc,jP] at d3;have s1:vb .shr .u64 x 8=x / 256:=by rw[qb];show x.fdiv (2^8)=_;rw[Int.fdiv_eq_ediv_of_nonneg _ (by omega)];rfl
  have w1:vw .u8 (x / 256)=x / 256:=by rw[qw];exact wrap_u8 (by omega) (by omega)
  have hk:=key (x / 256) (by omega) (by omega);have:=hb256 (by omega);cbv;rw[s1,w1,hk,hbl2];refine⟨⟨?_⟩,?_,trivial⟩
  ·rw[hll];omega
  ·congr 1
   rw[qb,kh (by omega) (by omega)];omega
theorem kcH (x:Int) (hx:0≤x∧x<65536):Con Try.prog 78 [.int .u64 x] [] (fun v H R=>v=.int .i64 (kB x)∧H=[]∧R=[]):=by
 have hc:=kkS x hx;refine kw (kl kD koH ?_)
 intro _ _ _ _ _ _ _ _ _ _ _ _ _ _ _ _ _ _ _ _ _ _ _ _ _ _ _ _ _ _ _ _ _ _ _ _ _ _ _ _ _ _ _;have hm:=kD;generalize Try.prog=P at *;generalize kB x=bl at *;cbv;refine ka (ρ:=[]) hc ⟨by rfl,by rfl,by rfl,by cbv⟩ ?_
 rintro v H R js ⟨rfl,rfl,rfl⟩;cbv
def WS (bs l:List Int) (n:Nat) (m:Int):Prop:=(∀b∈bs,kT b)∧l=pack bs∧n=l.length∧m=bs.length
theorem WS.nil:WS [] [] 0 0:=⟨by simp,(show pack []=[] by decide).symm,rfl,rfl⟩
theorem knd (bs l:List Int) (c n:Nat) (x k m:Int) (hx:0≤x∧x<2^64) (hk:0≤k∧k≤56) (h:WS bs l n m) (hl:bs.length≤2^40) :
  Con Try.prog 96 [.ptr 0 .z 2 0,.int .u64 x,.int .i64 k] [.one 184 [.slice 1 .z 1 n c,.int .i64 m],.buf 5 .u8 l c]
   (fun v H R=>R=[1]∧∃l' n' m' c',WS (bs++kr x k.toNat) l' n' m'∧v=.int .i64 0∧H=[.one 184 [.slice 1 .z 1 n' c',.int .i64 m'],.buf 5 .u8 l' c']):=by
 obtain⟨h1,rfl,rfl,rfl⟩:=h;refine(kkR bs c x k hx h1 hl).mono ?_
 rintro v H R ⟨rfl,rfl,c',rfl⟩;have e:k8 bs x k=bs++kr x k.toNat:=by unfold k8;rw[if_pos hk]
 have e2:j8 k=0:=by unfold j8;rw[if_pos hk]
 have h2:=khE (x:=x) (n:=k) h1;rw[e] at h2;rw[e,e2];exact⟨rfl,_,_,_,c',⟨h2,rfl,rfl,rfl⟩,rfl,rfl⟩
theorem kkT (bs l:List Int) (c n:Nat) (m:Int) (h:WS bs l n m) (hl:bs.length≤2^40) :
  Con Try.prog 97 [.ptr 0 .z 2 0] [.one 184 [.slice 1 .z 1 n c,.int .i64 m],.buf 5 .u8 l c]
   (fun v H R=>R=[2]∧∃c',v=.slice 2 .z 1 n c'∧H=[.one 184 [.slice 1 .z 1 n c,.int .i64 m],.buf 5 .u8 l c,.buf 5 .u8 l c']):=by
 obtain⟨h1,rfl,rfl,rfl⟩:=h;exact ki1 bs c hl
def ka5 (v most:Int):List Int:=
 if v<2^(kB most).toNat-1-most then kr v (kB most-1).toNat
 else if v<2^(kB most-1).toNat then kr v (kB most).toNat
 else kr (v+(2^(kB most).toNat-1-most)) (kB most).toNat
def wgo:Option Nat→List Int→Int→List Int
 |_,[],_=>[]
 |none,c::l,left=>if left≤0 then[] else ka5 (c+1) (left+1)++wgo (if c=0 then some 0 else none) l (left-km c)
 |some k,c::l,left=>if c=0 then(if k=2 then kr 3 2++wgo (some 0) l left else wgo (some (k+1)) l left)
  else kr k 2++(if left≤0 then[] else ka5 (c+1) (left+1)++wgo none l (left-km c))
theorem kdH {v most:Int} (h0:0≤most) (h1:most<65536):(ka5 v most).length≤16:=by
 have:=kdX h0 h1;unfold ka5;split
 ·rw[kg];omega
 ·split
  ·rw[kg];omega
  ·rw[kg];omega
theorem qs {c:Int} (h : -1≤c):0≤km c:=by unfold km;split<;>omega
theorem keN:∀(l:List Int) (o:Option Nat) (left:Int),(∀c∈l,-1≤c)→left≤4096→(wgo o l left).length≤18*l.length
 |[],o,left,_,_=>by cases o<;>simp[wgo]
 | c :: l,o,left,h,hl=>by
  have hc:=qs (h c (by simp));have ih:=fun o left (hl:left≤4096)=>keN l o left (fun c hc=>h c (by simp[hc])) hl
  cases o with
  | none=>
   simp only[wgo];split
   ·simp
   ·have:=kdH (v:=c+1) (most:=left+1) (by omega) (by omega);have:=ih (if c=0 then some 0 else none) (left-km c) (by omega);simp only[List.length_append,List.length_cons];omega
  | some k=>
   simp only[wgo];split
   ·split
    ·have:=ih (some 0) left hl;simp only[List.length_append,List.length_cons,kg];omega
    ·have:=ih (some (k+1)) left hl;simp only[List.length_cons];omega
   ·split
    ·simp only[List.length_append,List.length_cons,kg,List.length_nil];omega
    ·have:=kdH (v:=c+1) (most:=left+1) (by omega) (by omega);have:=ih none (left-km c) (by omega);simp only[List.length_append,List.length_cons,kg];omega
def kZ (l:List Int) (log:Int):List Int:=kr (log-5) 4++wgo none l (2^log.toNat)
theorem kag {log:Int} (h:5≤log∧log≤12):(32:Int)≤2^log.toNat∧(2:Int)^log.toNat≤4096:=by
 obtain⟨n,rfl⟩:∃n:Nat,log=n:=⟨log.toNat,by omega⟩;have:n=5∨n=6∨n=7∨n=8∨n=9∨n=10∨n=11∨n=12:=by omega
 rcases this with rfl|rfl|rfl|rfl|rfl|rfl|rfl|rfl<;>decide
theorem kcI {l:List Int} {log:Int} (h:jc l log):(kZ l log).length≤5000:=by
 have h1:=keN l none (2^log.toNat) h.2.2.2.2.2.1 (kag ⟨h.1,h.2.1⟩).2;have:=h.2.2.2.1;unfold kZ;rw[List.length_append,kg];omega
theorem jl {l:List Int} (h:∀c∈l,-1≤c) (i:Nat):0≤kW (l.take i)∧kW (l.take i)≤kW l:=by
 induction l generalizing i with
 |nil=>simp[kW]
 | cons c l ih=>
  have hc:=qs (h c (by simp));have h2:=ih (fun x hx=>h x (by simp[hx]));cases i with
  |zero=>
   have:=h2 l.length;simp only[kW,List.take_zero,List.map_nil,List.sum_nil,List.map_cons,List.sum_cons,List.take_length] at *;omega
  |succ i=>
   have:=h2 i;simp only[kW,List.take_succ_cons,List.map_cons,List.sum_cons] at *;omega
theorem kbM {l:List Int} {i:Nat} (h:i<l.length):l.drop i=l.getD i 0::l.drop (i+1):=by
 rw[List.drop_eq_getElem_cons h,List.getD_eq_getElem?_getD,List.getElem?_eq_getElem h];rfl
theorem kme {l:List Int} {left:Int} (h:left≤0):wgo none l left=[]:=by
 cases l with
 |nil=>rfl
 |cons c l=>simp only[wgo];rw[if_pos h]
theorem qK {x:Int} (h0:0≤x) (h1:x≤62):bV .shl .i64 1 x=2^x.toNat:=by
 obtain⟨n,rfl⟩:∃n:Nat,x=n:=⟨x.toNat,by omega⟩;have hn:n≤62:=by omega
 show IntKind.i64.wrap (1*2^(min ((n:Int).toNat) IntKind.i64.bits))=2^((n:Int).toNat)
 have e:min ((n:Int).toNat) IntKind.i64.bits=n:=by simp[IntKind.bits];omega
 have hp:(2:Int)^n≤2^62:=by exact_mod_cast Nat.pow_le_pow_right (by omega:0<2) hn
 have hp0:(0:Int)<2^n:=Int.pow_pos (by omega);rw[e,Int.one_mul,Int.toNat_natCast];exact wrap_i64 (by omega) (by omega)
set_option maxRecDepth 10000 in
set_option maxHeartbeats 40000000 in
theorem kmf (l:List Int) (log:Int) (cap:Nat) (hl:∀c∈l,jo c) (hlog : -9223372036854775808≤log∧log≤9223372036854775807) (hR:jc l log) :
  Con Try.prog 68 [.slice 0 .z 1 l.length cap,.int .i64 log] [.ro .i16 l] (fun v H R=>R=[2]∧∃l' n' m' c c',WS (kZ l log) l' n' m'∧v=.tup [.slice 3 .z 1 n' c',.int .i64 0] ∧
   H=[.ro .i16 l,.one 184 [.slice 2 .z 1 n' c,.int .i64 m'],.buf 5 .u8 l' c,.buf 5 .u8 l' c']):=by
 have hright:=kdi l log cap hl hlog;rw[show decide (jc l log)=true by simp[hR]] at hright;have f68:=kn5;have hput:=@knd;have hbytes:=@kkT;have hparts:=kbL;have hlen:=kcH;refine kw (kV 4 (by simp) (jJ [2] (kl kD kpd ?_)))
 intro vb vc vw vtoN _ vaddN _ _ _ _ vgd _ vln _ _ _ _ _ _ vnotB _ hw qb qc qw qtoN _ qaddN _ _ _ _ qgd _ qln _ _ _ _ _ _ qnotB _;have hm:=kD;generalize Try.prog=P at *;obtain⟨g1,g2,g3,g4,g5,g6,g7⟩:=hR;have hpl:=kag ⟨g1,g2⟩;have htot:=kcI ⟨g1,g2,g3,g4,g5,g6,g7⟩;have hW0:kZ l log=kr (log-5) 4++wgo none l (2^log.toNat):=rfl;generalize kZ l log=W at *;generalize hn:l.length=n at *;have htake:=fun i=>jl g6 i
 have hadd0:∀i,vaddN 0 i=i:=fun i=>by simp only[qaddN,Nat.zero_add]
 have hto:∀i:Nat,vtoN (i:Int)=i:=fun i=>by simp only[qtoN,Int.toNat_natCast]
 have hvln:vln l=n:=by simp only[qln,hn]
 have hvgd:∀i,vgd l i=l.getD i 0:=fun i=>by simp only[qgd]
 have hmem:∀i,i<n→l.getD i 0∈l:=fun i hi=>by rw[List.getD_eq_getElem?_getD,List.getElem?_eq_getElem (by omega)];exact List.getElem_mem _
 cbv;refine ka (ρ:=[(0,.z)]) hright ⟨by rfl,by rfl,by rfl,by cbv;exact⟨kd _,trivial⟩⟩ ?_
 rintro v H R js ⟨rfl,rfl,rfl⟩;have hnb:vnotB true=false:=by simp only[qnotB];rfl
 cbv;rw[hnb];have e1:vw .u64 (vb .sub .i64 log 5)=log-5:=by rw[qw,qb,ku (by omega) (by omega)];exact wrap_u64 (by omega) (by omega)
 have e2:vw .u64 log=log:=by rw[qw];exact wrap_u64 (by omega) (by omega)
 have e3:vb .shl .i64 1 log=2^log.toNat:=by rw[qb,kcG (by omega) (by omega)]
 have hput0:=hput [] [] 0 0 (log-5) 4 0 (by omega) (by omega) WS.nil (by simp);generalize hlg5:log-5=lg5 at *;generalize hp:(2:Int)^log.toNat=pw at *;cbv;rw[e1];refine CallX.cv f68.go (Cv.nilB 1 0 5 .u8 (by rfl) (by cbv) (Cv.here ?_)) (by rfl)
 refine ka (ρ:=[(1,.z),(2,.z)]) hput0 ⟨by rfl,by rfl,by rfl,by cbv⟩ ?_
 rintro v H R js2 ⟨rfl,l1,n1,m1,c1,hws1,rfl,rfl⟩;clear hput0 hright;cbv;rw[e2];rw[e3];refine⟨⟨by omega⟩,?_⟩
 have hgx:∀i,i<n → -1≤l.getD i 0:=fun i hi=>g6 _ (hmem i hi)
 have h16:∀i,i<n→jo (l.getD i 0):=fun i hi=>hl _ (hmem i hi)
 have hdrop:∀i,i<n→l.drop i=l.getD i 0::l.drop (i+1):=fun i hi=>kbM (by omega)
 have hsumn:kW (l.take n)=pw:=by rw[List.take_of_length_le (by omega)];exact g7
 have hsums:∀i,i<n→kW (l.take (i+1))=kW (l.take i)+km (l.getD i 0):=fun i hi=>by rw[jw (by omega),jK]
 have hwg:=wgo.eq_def;have hlast:∀i,i<n→l.getD i 0=0→i+1<n:=fun i hi h0=>by
  apply Classical.byContradiction
  intro hc;have:i=n-1:=by omega
  rw[this] at h0;exact g5 h0
 refine kv (α:=Int×Int×List Int×Nat×Int×Nat) ([9,10,11,12]++[27,28,29,30,31,32,33,34,35,36,37,38,39,40,41,42,43,44,45,46,47,48,49,50,51,52,53,54,55,56,57,58,59,60,61,62,63,64,65,66,67,68,69,70,71,72,73,74,75,76,77,78,79,80,81,82,83,84,85,86,87,88,89,90,91,92,93,94,95,96,97,98,99,100,101,102,103,104,105,106,107,108,109,110]) [2]
  (fun(left,k,b,n1,m1,c1)=>[(7,.int .i64 left),(8,.int .i64 k)])
  (fun(left,k,b,n1,m1,c1)=>[(1,.one 184 [.slice 2 .z 1 n1 c1,.int .i64 m1]),(2,.buf 5 .u8 b c1)])
  (fun(left,k,b,n1,m1,c1)=>∃(i:Nat) (bs:List Int),k=i∧i≤n∧left=pw-kW (l.take i)∧WS bs b n1 m1∧bs++wgo none (l.drop i) left=W) (fun(left,k,b,n1,m1,c1)=>n-k.toNat) hw hm ?_ ?_
 ·refine Cv.genAt [8] [] (Cv.fold ([9,10,11,12]++[27,28,29,30,31,32,33,34,35,36,37,38,39,40,41,42,43,44,45,46,47,48,49,50,51,52,53,54,55,56,57,58,59,60,61,62,63,64,65,66,67,68,69,70,71,72,73,74,75,76,77,78,79,80,81,82,83,84,85,86,87,88,89,90,91,92,93,94,95,96,97,98,99,100,101,102,103,104,105,106,107,108,109,110]) 3 [2] (by exact Nat.le_refl _) (by exact Nat.le_of_ble_eq_true rfl) (by rfl) (by cbv) ?_)
  intro js;refine⟨(_,_,_,_,_,_),?_,js,rfl⟩
  exact⟨0,_,rfl,by omega,by simp[kW],hws1,by rw[hW0];rfl⟩
 ·rintro ⟨left,k,b,n2,m2,c2⟩ js ⟨i,bs,hk,hi,hleft,hws,hbs⟩;clear hws1 e1 e2 e3;cbv;split
  rotate_left
  ·rename_i h;rw[qc,kx] at h;have hbs2:bs=W:=by rw[←hbs,kme (by omega),List.append_nil]
   rw[hbs2] at hws;have hb:=hbytes W b c2 n2 m2 hws (by omega);cbv;refine ka (ρ:=[(1,.z),(2,.z)]) hb ⟨by rfl,by rfl,by rfl,by cbv⟩ ?_
   rintro v H R js2 ⟨rfl,c',rfl,rfl⟩;cbv;exact⟨b,n2,m2,c2,c',hws,rfl,rfl⟩
  ·rename_i h;rw[qc,kC] at h;have hin:i<n:=by
    apply Classical.byContradiction
    intro hc;have:i=n:=by omega
    subst this;omega
   simp only[nc] at *;have ht0:=htake i;have ea:vb .add .i64 left 1=left+1:=by rw[qb,kh (by omega) (by omega)]
   have hle:left≤pw:=by omega
   generalize hmo:left+1=mo at *;have eb:vw .u64 mo=mo:=by rw[qw];exact wrap_u64 (by omega) (by omega)
   have hl1:=hlen mo (by omega);obtain⟨mk,hmk,hmk1,hmk2⟩:=jA (x:=mo) (by omega);have hmk12:1≤mk∧mk≤12:=by
    constructor
    ·apply Classical.byContradiction
     intro hc;have:mk=0:=by omega
     subst this;omega
    ·apply Classical.byContradiction
     intro hc;have:(2:Int)^13≤2^mk:=by exact_mod_cast Nat.pow_le_pow_right (by omega:0<2) (by omega:13≤mk)
     omega
   have hpv:ka5 (l.getD i 0+1) mo=(if l.getD i 0+1<2^(kB mo).toNat-1-mo then kr (l.getD i 0+1) (kB mo-1).toNat
    else if l.getD i 0+1<2^(kB mo-1).toNat then kr (l.getD i 0+1) (kB mo).toNat
    else kr (l.getD i 0+1+(2^(kB mo).toNat-1-mo)) (kB mo).toNat):=rfl
   generalize kB mo=mb at *;have ec:vw .u64 mb=mb:=by rw[qw];exact wrap_u64 (by omega) (by omega)
   have ed:vb .shl .i64 1 mb=2^mb.toNat:=by rw[qb,qK (by omega) (by omega)]
   have ee:vb .sub .i64 mb 1=mb-1:=by rw[qb,ku (by omega) (by omega)]
   have ee2:vw .u64 (mb-1)=mb-1:=by rw[qw];exact wrap_u64 (by omega) (by omega)
   have ef:vb .shl .i64 1 (mb-1)=2^(mb-1).toNat:=by rw[qb,qK (by omega) (by omega)]
   have hpm:(2:Int)^mb.toNat=2^(mk+1):=by rw[hmk];rfl
   have hpm1:(2:Int)^(mb-1).toNat=2^mk:=by rw[hmk];congr 1;omega
   have hpw2:(2:Int)^(mk+1)=2*2^mk:=by rw[Int.pow_succ];omega
   rw[hpm1] at ef hpv;rw[hpm] at ed hpv;rw[hpw2] at ed hpv hmk2;have hqq:(2:Int)^mk≤2^12:=by exact_mod_cast Nat.pow_le_pow_right (by omega:0<2) hmk12.2
   generalize hq:(2:Int)^mk=q at *;have eg:vb .sub .i64 (2*q) 1=2*q-1:=by rw[qb,ku (by omega) (by omega)]
   have eh:vb .sub .i64 (2*q-1) mo=2*q-1-mo:=by rw[qb,ku (by omega) (by omega)]
   generalize htt:2*q-1-mo=tt at *;generalize hq21:2*q-1=q21 at *;generalize hq2:2*q=q2 at *;generalize hmb1:mb-1=mb1 at *;have hti:vtoN k=i:=by rw[hk];exact hto i
   have hinR:0≤k∧k<(n:Int):=by omega
   cbv;rw[ea,eb];refine ka (ρ:=[]) hl1 ⟨by rfl,by rfl,by rfl,by cbv⟩ ?_
   rintro v H R js2 ⟨rfl,rfl,rfl⟩;cbv;rw[ec,ed,eg,ea,eh,hti,hadd0];simp only[nc] at *;have hbl:bs.length≤5000:=by have:=congrArg List.length hbs;rw[List.length_append] at this;omega
   have hwg1:wgo none (l.drop i) left=ka5 (l.getD i 0+1) mo++wgo (if l.getD i 0=0 then some 0 else none) (l.drop (i+1)) (left-km (l.getD i 0)):=by
    rw[hdrop i hin,wgo,if_neg (by omega),hmo]
   rw[hwg1,←List.append_assoc] at hbs;have hs1:=hsums i hin;have h16i:=h16 i hin;have hgxi:=hgx i hin;have hlasti:=hlast i hin;have hpn:=kbK h16i;have hpc:=hparts _ h16i;have ht1:=htake (i+1);have hp00:l.getD i 0=0→km (l.getD i 0)=0:=fun h=>by rw[h];rfl
   rw[hvgd i];generalize hci:l.getD i 0=ci at *;have ei:vw .i64 ci=ci:=by unfold jo at h16i;rw[qw];exact wrap_i64 (by omega) (by omega)
   have ej:vb .add .i64 ci 1=ci+1:=by unfold jo at h16i;rw[qb,kh (by omega) (by omega)]
   rw[ei,ej];have hv:0≤ci+1∧ci+1≤32768:=by unfold jo at h16i;omega
   generalize hvv:ci+1=v at *;have ek:vb .add .i64 v tt=v+tt:=by rw[qb,kh (by omega) (by omega)]
   have ek2:vw .u64 (v+tt)=v+tt:=by rw[qw];exact wrap_u64 (by omega) (by omega)
   have ek3:vw .u64 v=v:=by rw[qw];exact wrap_u64 (by omega) (by omega)
   have hput1:=hput bs b c2 n2 v mb1 m2 (by omega) (by omega) hws (by omega);have hput2:=hput bs b c2 n2 v mb m2 (by omega) (by omega) hws (by omega);have hput3:=hput bs b c2 n2 (v+tt) mb m2 (by omega) (by omega) hws (by omega);generalize hvt:v+tt=vt at *;generalize km ci=pc at *;have el:vb .sub .i64 left pc=left-pc:=by rw[qb,ku (by omega) (by omega)]
   have em:vb .add .i64 k 1=k+1:=by rw[qb,kh (by omega) (by omega)]
   have en:vb .sub .i64 (k+1) 1=k:=by rw[qb,ku (by omega) (by omega)];omega
   generalize hk1:k+1=k1 at *;generalize hl2:left-pc=left2 at *;refine⟨⟨by omega⟩,⟨hinR⟩,⟨by omega⟩,⟨by omega⟩,?_⟩
   generalize ka5 v mo=pv at *;generalize hz:vc .lss v tt=z;cases z
   rw[qc,kb] at hz;rw[if_neg hz] at hpv;cbv;rw[ee,ee2,ef];refine⟨⟨by simp only[nc] at *;omega⟩,?_⟩
   generalize hz2:vc .lss v q=z2;cases z2
   rw[qc,kb] at hz2;rw[if_neg hz2] at hpv;cbv;rw[ek,ek2];refine ka (ρ:=[(1,.z),(2,.z)]) hput3 ⟨by rfl,by rfl,by rfl,by cbv⟩ ?_
   rotate_left
   rw[qc,ko] at hz2;rw[if_pos hz2] at hpv;cbv;rw[ek3];refine ka (ρ:=[(1,.z),(2,.z)]) hput2 ⟨by rfl,by rfl,by rfl,by cbv⟩ ?_
   rotate_left
   rw[qc,ko] at hz;rw[if_pos hz] at hpv;cbv;rw[ee,ek3];refine ka (ρ:=[(1,.z),(2,.z)]) hput1 ⟨by rfl,by rfl,by rfl,by cbv⟩ ?_
   all_goals
    rintro v H R js2 ⟨rfl,b3,n3,m3,c3,hws3,rfl,rfl⟩;rw[←hpv] at hws3;clear hput1 hput2 hput3;cbv;rw[hti,hadd0,hvgd,hci];refine⟨⟨hinR⟩,⟨by omega⟩,⟨by omega⟩,?_⟩
    refine ka (ρ:=[]) hpc ⟨by rfl,by rfl,by rfl,by cbv⟩ ?_
    rintro v H R js3 ⟨rfl,rfl,rfl⟩;cbv;rw[el,em,en,hti,hadd0,hvgd,hci];refine⟨⟨hinR⟩,⟨by omega⟩,⟨by omega⟩,?_⟩
    generalize hz3:vc .neq ci 0=z3;cases z3
    rotate_left
    ·rw[qc,kaw] at hz3;rw[if_neg hz3] at hbs;cbv;refine Cv.fold ([9,10,11,12]++[27,28,29,30,31,32,33,34,35,36,37,38,39,40,41,42,43,44,45,46,47,48,49,50,51,52,53,54,55,56,57,58,59,60,61,62,63,64,65,66,67,68,69,70,71,72,73,74,75,76,77,78,79,80,81,82,83,84,85,86,87,88,89,90,91,92,93,94,95,96,97,98,99,100,101,102,103,104,105,106,107,108,109,110]) 3 [2] (by exact Nat.le_refl _) (by exact Nat.le_of_ble_eq_true rfl) (by rfl) (by cbv) ?_
     intro js;refine⟨(_,_,_,_,_,_),?_,js,rfl⟩
     simp only[nc] at *;exact⟨⟨i+1,_,by omega,by omega,by omega,hws3,hbs⟩,by show n-k1.toNat<n-k.toNat;omega⟩
    rw[qc,kax] at hz3;have hz3:ci=0:=Classical.not_not.1 hz3;rw[if_pos hz3] at hbs;have hpc0:=hp00 hz3;have hil:=hlasti hz3;have hleft2:left2=pw-kW (l.take (i+1)):=by omega
    have hpart0:km 0=0:=by decide
    have hsum0:∀j,j<n→l.getD j 0=0→kW (l.take (j+1))=kW (l.take j):=fun j hj h0=>by have:=hsums j hj;rw[h0,hpart0] at this;omega
    clear ej ei ek ek2 ek3 ec ed ee ee2 ef eg eh ea eb hl1 hpc hz hlen hparts hpv hs1;cbv;refine kv (α:=Int×Int×List Int×Nat×Int×Nat) [90,91,92,93,94,95,96,97,98,99,100,101,102,103,104,105,106,107,108] [2]
     (fun(nn,k,b,n1,m1,c1)=>[(12,.int .i64 nn),(8,.int .i64 k)])
     (fun(nn,k,b,n1,m1,c1)=>[(1,.one 184 [.slice 2 .z 1 n1 c1,.int .i64 m1]),(2,.buf 5 .u8 b c1)])
     (fun(nn,k,b,n1,m1,c1)=>∃(j:Nat) (bs:List Int),k=j∧i+1≤j∧j<n∧kW (l.take j)=kW (l.take (i+1))∧WS bs b n1 m1∧((nn=3∧bs++wgo (some 0) (l.drop j) left2=W)∨(nn≠3∧bs++wgo none (l.drop j) left2=W)))
     (fun(nn,k,b,n1,m1,c1)=>2*(n-k.toNat)+(if nn=3 then 1 else 0)) hw hm ?_ ?_
    ·refine Cv.genAt [12] [] (Cv.fold [90,91,92,93,94,95,96,97,98,99,100,101,102,103,104,105,106,107,108] 3 [2] (by exact Nat.le_refl _) (by exact Nat.le_of_ble_eq_true rfl) (by rfl) (by cbv) ?_)
     intro js;refine⟨(_,_,_,_,_,_),?_,js,rfl⟩
     simp only[nc] at *;exact⟨i+1,_,by omega,by omega,by omega,rfl,hws3,.inl ⟨by trivial,hbs⟩⟩
    ·rintro⟨nn,k4,b4,n4,m4,c4⟩ js ⟨j,bs4,hk4,hij,hjn,hsj,hws4,hbs4⟩;clear hws3 hbs hws;have hbl4:bs4.length≤5000:=by
      rcases hbs4 with⟨_,h⟩|⟨_,h⟩<;>(have:=congrArg List.length h;rw[List.length_append] at this;omega)
     cbv;split
     rotate_left
     ·rename_i hz4;rw[qc,ky] at hz4;have hbs5:=hbs4.resolve_left (fun h=>hz4 h.1);cbv;refine Cv.fold ([9,10,11,12]++[27,28,29,30,31,32,33,34,35,36,37,38,39,40,41,42,43,44,45,46,47,48,49,50,51,52,53,54,55,56,57,58,59,60,61,62,63,64,65,66,67,68,69,70,71,72,73,74,75,76,77,78,79,80,81,82,83,84,85,86,87,88,89,90,91,92,93,94,95,96,97,98,99,100,101,102,103,104,105,106,107,108,109,110]) 3 [2] (by exact Nat.le_refl _) (by exact Nat.le_of_ble_eq_true rfl) (by rfl) (by cbv) ?_
      intro js;refine⟨(_,_,_,_,_,_),?_,js,rfl⟩
      simp only[nc] at *;exact⟨⟨j,_,hk4,by omega,by omega,hws4,hbs5.2⟩,by show n-k4.toNat<n-k.toNat;omega⟩
     ·rename_i hz4;rw[qc,kJ] at hz4;have hbs5:=(hbs4.resolve_right (fun h=>h.1 hz4)).2;cbv;refine kv (α:=Int×Int) [92,93,94,95,96,97,98,99,100,101,102,103,104] [2]
       (fun(nn,k)=>[(12,.int .i64 nn),(8,.int .i64 k)]) (fun _=>[])
       (fun(nn,k)=>∃(c:Nat),k=(j+c:Nat)∧nn=c∧c≤3∧j+c<n∧kW (l.take (j+c))=kW (l.take (i+1))∧bs4++(if c=3 then kr 3 2++wgo (some 0) (l.drop (j+c)) left2 else wgo (some c) (l.drop (j+c)) left2)=W)
       (fun(nn,k)=>3-nn.toNat) hw hm ?_ ?_
      ·refine Cv.genAt [12] [] (Cv.fold [92,93,94,95,96,97,98,99,100,101,102,103,104] 3 [2] (by exact Nat.le_refl _) (by exact Nat.le_of_ble_eq_true rfl) (by rfl) (by cbv) ?_)
       intro js;refine⟨(_,_),?_,js,rfl⟩
       simp only[nc] at *;exact⟨0,by omega,rfl,by omega,by omega,by rw[Nat.add_zero];exact hsj,by rw[Nat.add_zero,if_neg (by omega)];exact hbs5⟩
      ·rintro⟨n5,k5⟩ js ⟨c5,hk5,hn5,hc3,hjc,hsc,hbs6⟩;have hto5:vtoN k5=j+c5:=by rw[hk5];exact hto _
       have hin5:0≤k5∧k5<(n:Int):=by simp only[nc] at *;omega
       have eo:vb .add .i64 k5 1=((j+(c5+1):Nat):Int):=by simp only[nc] at *;rw[qb,kh (by omega) (by omega)];omega
       have ep:vb .add .i64 n5 1=((c5+1:Nat):Int):=by simp only[nc] at *;rw[qb,kh (by omega) (by omega)];omega
       have eq2:vw .u64 n5=n5:=by simp only[nc] at *;rw[qw];exact wrap_u64 (by omega) (by omega)
       have hputn:=hput bs4 b4 c4 n4 n5 2 m4 (by simp only[nc] at *;omega) (by omega) hws4 (by omega);have hstep:c5<3→l.getD (j+c5) 0=0→bs4++(if c5+1=3 then kr 3 2++wgo (some 0) (l.drop (j+(c5+1))) left2 else wgo (some (c5+1)) (l.drop (j+(c5+1))) left2)=W∧j+(c5+1)<n∧kW (l.take (j+(c5+1)))=kW (l.take (i+1)):=by
        intro h3 h0;refine⟨?_,hlast _ hjc h0,by rw[←Nat.add_assoc,hsum0 _ hjc h0,hsc]⟩
        rw[if_neg (by omega),hdrop _ hjc,h0,wgo,if_pos rfl] at hbs6;by_cases h2:c5=2
        ·rw[if_pos (by omega)];rw[if_pos h2] at hbs6;exact hbs6
        ·rw[if_neg (by omega)];rw[if_neg h2] at hbs6;exact hbs6
       have hend:c5=3∨l.getD (j+c5) 0≠0→(n5=3∧(bs4++kr n5 2)++wgo (some 0) (l.drop (j+c5)) left2=W)∨(n5≠3∧(bs4++kr n5 2)++wgo none (l.drop (j+c5)) left2=W):=by
        intro h;by_cases h3:c5=3
        ·subst h3;rw[if_pos rfl,←List.append_assoc] at hbs6;rw[hn5];exact .inl ⟨rfl,hbs6⟩
        ·have hne:=h.resolve_left h3;refine .inr ⟨by simp only[nc] at *;omega,?_⟩
         rw[if_neg h3,hdrop _ hjc,wgo,if_neg hne] at hbs6;rw[List.append_assoc,hdrop _ hjc,wgo,if_neg hne,hn5];exact hbs6
       cbv;generalize hz5:vc .lss n5 3=z5;cases z5
       ·rw[qc,kb] at hz5;have hc53:c5=3:=by simp only[nc] at *;omega
        have hend:=hend (.inl hc53);cbv;rw[eq2];refine ka (ρ:=[(1,.z),(2,.z)]) hputn ⟨by rfl,by rfl,by rfl,by cbv⟩ ?_
        rintro v H R js6 ⟨rfl,b6,n6,m6,c6,hws6,rfl,rfl⟩;cbv;refine Cv.fold [90,91,92,93,94,95,96,97,98,99,100,101,102,103,104,105,106,107,108] 3 [2] (by exact Nat.le_refl _) (by exact Nat.le_of_ble_eq_true rfl) (by rfl) (by cbv) ?_
        intro js;refine⟨(_,_,_,_,_,_),?_,js,rfl⟩
        refine⟨⟨j+c5,_,hk5,by omega,hjc,hsc,hws6,hend⟩,?_⟩
        show 2*(n-k5.toNat)+(if n5=3 then 1 else 0)<2*(n-k4.toNat)+(if nn=3 then 1 else 0)
        rw[if_pos hz4];simp only[nc] at *;split<;>omega
       ·rw[qc,ko] at hz5;have hc53:c5<3:=by simp only[nc] at *;omega
        cbv;rw[hto5,hadd0,hvgd];refine⟨⟨hin5⟩,⟨by omega⟩,⟨by omega⟩,?_⟩
        generalize hz6:vc .eql (l.getD (j+c5) 0) 0=z6;cases z6
        ·rw[qc,ky] at hz6;have hend:=hend (.inr hz6);cbv;rw[eq2];refine ka (ρ:=[(1,.z),(2,.z)]) hputn ⟨by rfl,by rfl,by rfl,by cbv⟩ ?_
         rintro v H R js6 ⟨rfl,b6,n6,m6,c6,hws6,rfl,rfl⟩;cbv;refine Cv.fold [90,91,92,93,94,95,96,97,98,99,100,101,102,103,104,105,106,107,108] 3 [2] (by exact Nat.le_refl _) (by exact Nat.le_of_ble_eq_true rfl) (by rfl) (by cbv) ?_
         intro js;refine⟨(_,_,_,_,_,_),?_,js,rfl⟩
         refine⟨⟨j+c5,_,hk5,by omega,hjc,hsc,hws6,hend⟩,?_⟩
         show 2*(n-k5.toNat)+(if n5=3 then 1 else 0)<2*(n-k4.toNat)+(if nn=3 then 1 else 0)
         rw[if_pos hz4];simp only[nc] at *;rw[if_neg (by omega)];omega
        ·rw[qc,kJ] at hz6;obtain⟨hs7,hj7,hs8⟩:=hstep hc53 hz6;cbv;rw[eo,ep];refine Cv.fold [92,93,94,95,96,97,98,99,100,101,102,103,104] 3 [2] (by exact Nat.le_refl _) (by exact Nat.le_of_ble_eq_true rfl) (by rfl) (by cbv) ?_
         intro js;refine⟨(_,_),?_,js,rfl⟩
         refine⟨⟨c5+1,rfl,rfl,hc53,hj7,hs8,hs7⟩,?_⟩
         show 3-((c5+1:Nat):Int).toNat<3-n5.toNat
         simp only[nc] at *;omega
def stepT (size a:Int):Int:=(a+size / 2+size / 8+3) % size
def j9 (size high:Int):Nat→Int→Int
 |0,a=>a
 |n+1,a=>if a<high then a else j9 size high n (stepT size a)
def kmg (size high a:Int):Int:=j9 size high 5000 (stepT size a)
def qm (size high:Int):Nat→Int
 |0=>0
 |n+1=>kmg size high (qm size high n)
def qU (size:Int):Nat→Int→Int
 |0,a=>a
 |n+1,a=>qU size n (stepT size a)
theorem khJ {size:Int} (h:0<size):∀(n:Nat) (a:Int),0≤a→a<size→qU size n a=(a+n*(size / 2+size / 8+3)) % size
 |0,a,h0,h1=>by simp only[qU];rw[show a+((0:Nat):Int)*(size / 2+size / 8+3)=a by simp];exact(Int.emod_eq_of_lt h0 h1).symm
 |n+1,a,h0,h1=>by
  have hs:0≤stepT size a∧stepT size a<size:=⟨Int.emod_nonneg _ (by omega),Int.emod_lt_of_pos _ h⟩;rw[qU,khJ h n _ hs.1 hs.2];unfold stepT;rw[Int.emod_add_emod];congr 1
  push_cast
  rw[Int.add_mul];omega
theorem kob {size:Int} (hs:size=32∨size=64∨size=128∨size=256∨size=512∨size=1024∨size=2048∨size=4096) {a:Int} (h0:0≤a) (h1:a<size):∃m:Nat,m≤4096∧qU size m a=0:=by
 have key:∀inv:Int,(inv*(size / 2+size / 8+3)) % size=1→0<size→size≤4096→∃m:Nat,m≤4096∧qU size m a=0:=by
  intro inv hinv hp hle;refine⟨(((size-a)*inv) % size).toNat,?_,?_⟩
  ·have:=Int.emod_lt_of_pos ((size-a)*inv) hp;omega
  ·rw[khJ hp _ _ h0 h1,Int.toNat_of_nonneg (Int.emod_nonneg _ (by omega))];have e:((size-a)*inv % size*(size / 2+size / 8+3)) % size=(size-a) % size:=by
    rw[Int.mul_emod,Int.emod_emod_of_dvd _ (Int.dvd_refl _),←Int.mul_emod,Int.mul_assoc,Int.mul_emod,hinv,Int.mul_one,Int.emod_emod_of_dvd _ (Int.dvd_refl _)]
   rw[Int.add_emod,e,Int.add_emod_emod,Int.emod_add_emod];rw[show a+(size-a)=size by omega,Int.emod_self]
 rcases hs with rfl|rfl|rfl|rfl|rfl|rfl|rfl|rfl
 ·exact key 7 (by decide) (by decide) (by decide)
 ·exact key 3 (by decide) (by decide) (by decide)
 ·exact key 91 (by decide) (by decide) (by decide)
 ·exact key 11 (by decide) (by decide) (by decide)
 ·exact key 363 (by decide) (by decide) (by decide)
 ·exact key 43 (by decide) (by decide) (by decide)
 ·exact key 1451 (by decide) (by decide) (by decide)
 ·exact key 171 (by decide) (by decide) (by decide)
theorem qV {size:Int} (h:0<size) (a:Int):0≤stepT size a∧stepT size a<size:=⟨Int.emod_nonneg _ (by omega),Int.emod_lt_of_pos _ h⟩
theorem kdI {size high:Int} (h:0<size):∀(n:Nat) (a:Int),0≤a→a<size→0≤j9 size high n a∧j9 size high n a<size
 |0,a,h0,h1=>⟨h0,h1⟩
 |n+1,a,h0,h1=>by
  simp only[j9];split
  ·exact⟨h0,h1⟩
  ·exact kdI h n _ (qV h a).1 (qV h a).2
theorem khK {size high:Int} (h:0<high):∀(n m:Nat) (a:Int),qU size m a=0→m≤n→j9 size high n a<high
 |0,m,a,hm,hmn=>by
  have:m=0:=by omega
  subst this;simp only[qU] at hm;simp only[j9];omega
 | n+1,m,a,hm,hmn=>by
  simp only[j9];split
  ·assumption
  ·rename_i ha;cases m with
   |zero=>simp only[qU] at hm;omega
   |succ m=>exact khK h n m _ hm (by omega)
theorem ki2 {size high a:Int} {n m:Nat} (h:0<high) (ha:¬a<high) (hm:qU size m a=0) (hmn:m≤n):∃n' m',n=n'+1∧m=m'+1∧j9 size high n a=j9 size high n' (stepT size a)∧qU size m' (stepT size a)=0:=by
 cases m with
 |zero=>simp only[qU] at hm;omega
 |succ m=>
  cases n with
  |zero=>omega
  |succ n=>exact⟨n,m,rfl,rfl,by simp only[j9];rw[if_neg ha],hm⟩
theorem keO {size high a:Int} {n:Nat} (ha:a<high):j9 size high n a=a:=by
 cases n with
 |zero=>rfl
 |succ n=>simp only[j9];rw[if_pos ha]
theorem kjB {log:Int} (h:5≤log∧log≤12):∃size:Int,2^log.toNat=size∧(size=32∨size=64∨size=128∨size=256∨size=512∨size=1024∨size=2048∨size=4096):=by
 obtain⟨n,rfl⟩:∃n:Nat,log=n:=⟨log.toNat,by omega⟩;have:n=5∨n=6∨n=7∨n=8∨n=9∨n=10∨n=11∨n=12:=by omega
 refine⟨_,rfl,?_⟩
 rcases this with rfl|rfl|rfl|rfl|rfl|rfl|rfl|rfl<;>decide
def jx (l:List Int):Nat→Int
 |0=>0
 |i+1=>jx l i+(if l.getD i 0<0 then 1 else 0)
def kaC (l:List Int) (size:Int):Nat→Nat→Int
 |0=>fun _=>0
 |i+1=>if l.getD i 0<0 then q6 (kaC l size i) (size-jx l (i+1)).toNat i else kaC l size i
def j2 (l:List Int):Nat→List Int
 |0=>[]
 |i+1=>j2 l i++List.replicate (l.getD i 0).toNat (i:Int)
def je (size high:Int) (row:List Int) (sy:Nat→Int):Nat→Nat→Int
 |0=>sy
 |i+1=>q6 (je size high row sy i) (qm size high i).toNat (row.getD i 0)
def jf (l:List Int) (size:Int):Nat→Int:=
 je size (size-jx l l.length) (j2 l l.length) (kaC l size l.length) (size-jx l l.length).toNat
def kY (sy:Nat→Int) (s:Int):Nat→Int
 |0=>0
 |k+1=>kY sy s k+(if sy k=s then 1 else 0)
def xT (l:List Int) (sy:Nat→Int) (k:Nat):Int:=km (l.getD (sy k).toNat 0)+kY sy (sy k) k
def bT (log x:Int):Int:=IntKind.u8.wrap (log+1-kB x)
def kfF (log size x:Int):Int:=IntKind.u16.wrap (bV .sub .i64 (bV .shl .i64 x (IntKind.u64.wrap (log+1-kB x))) size)
def qn (l:List Int) (log size:Int) (i m:Nat):Int:=if m<i then bT log (xT l (jf l size) m) else 0
def qa (l:List Int) (log size:Int) (i m:Nat):Int:=if m<i then kfF log size (xT l (jf l size) m) else 0
theorem kkU (l:List Int) (log size:Int) (i:Nat):q6 (qn l log size i) i (bT log (xT l (jf l size) i))=qn l log size (i+1):=by
 funext m
 rw[kU];unfold qn;by_cases h:m=i
 ·subst h;rw[if_pos rfl,if_pos (by omega)]
 ·rw[if_neg h];by_cases h2:m<i
  ·rw[if_pos h2,if_pos (by omega)]
  ·rw[if_neg h2,if_neg (by omega)]
theorem kkV (l:List Int) (log size:Int) (i:Nat):q6 (qa l log size i) i (kfF log size (xT l (jf l size) i))=qa l log size (i+1):=by
 funext m
 rw[kU];unfold qa;by_cases h:m=i
 ·subst h;rw[if_pos rfl,if_pos (by omega)]
 ·rw[if_neg h];by_cases h2:m<i
  ·rw[if_pos h2,if_pos (by omega)]
  ·rw[if_neg h2,if_neg (by omega)]
theorem qW (l:List Int):∀i,0≤jx l i∧jx l i≤i
 |0=>by simp[jx]
 |i+1=>by
  have:=qW l i;simp only[jx];split<;>(push_cast;omega)
theorem kbp (l:List Int) (h:∀c∈l,-1≤c):∀i,i≤l.length→((j2 l i).length:Int)=kW (l.take i)-jx l i
 |0,_=>by simp[j2,jx,kW]
 |i+1,hi=>by
  have ih:=kbp l h i (by omega);have hc : -1≤l.getD i 0:=h _ (by rw[List.getD_eq_getElem?_getD,List.getElem?_eq_getElem (by omega)];exact List.getElem_mem _);rw[jw (by omega),jK,j2,jx,List.length_append,List.length_replicate];unfold km;split<;>(push_cast;omega)
theorem keP (l:List Int):∀i,∀s∈j2 l i,0≤s∧s<i
 |0,s,h=>by simp[j2] at h
 |i+1,s,h=>by
  simp only[j2,List.mem_append] at h;rcases h with h|h
  ·have:=keP l i s h;omega
  ·have:=List.eq_of_mem_replicate h;omega
theorem kaX (sy:Nat→Int) (s:Int):∀k,0≤kY sy s k∧kY sy s k≤k
 |0=>by simp[kY]
 |k+1=>by
  have:=kaX sy s k;simp only[kY];split<;>(push_cast;omega)
theorem keQ (l:List Int) (size:Int):∀i m,0≤kaC l size i m∧kaC l size i m<max i 1
 |0,m=>by simp[kaC]
 |i+1,m=>by
  have:=keQ l size i m;simp only[kaC];split
  ·rw[kU];split<;>omega
  ·omega
theorem jm {l:List Int} (i:Nat):l.getD i 0∈l∨l.getD i 0=0:=by
 rw[List.getD_eq_getElem?_getD];cases h:l[i]? with
 |none=>exact .inr rfl
 |some v=>exact .inl (List.mem_of_getElem? h)
theorem kcJ {size high n:Int} {row:List Int} {sy:Nat→Int} (hn:0<n) (h1:∀m,0≤sy m∧sy m<n) (h2:∀s∈row,0≤s∧s<n):∀i m,0≤je size high row sy i m∧je size high row sy i m<n
 |0,m=>h1 m
 | i+1,m=>by
  have:=kcJ (size:=size) (high:=high) hn h1 h2 i m;simp only[je];rw[kU];split
  ·rcases jm (l:=row) i with h|h
   ·exact h2 _ h
   ·rw[h];omega
  ·exact this
theorem kce {l:List Int} (size:Int) (h:0<l.length) (m:Nat):0≤jf l size m∧jf l size m<l.length:=by
 refine kcJ (by omega) (fun m=>?_) (fun s hs=>?_) _ m
 ·have:=keQ l size l.length m;omega
 ·exact keP l _ s hs
theorem qt {l:List Int} (h:∀c∈l,-1≤c) (i:Nat):0≤km (l.getD i 0)∧km (l.getD i 0)≤kW l:=by
 by_cases hi:i<l.length
 ·have h1:=jl h i;have h2:=jl h (i+1);rw[jw hi,jK] at h2;have:=qs (h (l.getD i 0) (by rw[List.getD_eq_getElem?_getD,List.getElem?_eq_getElem (by omega)];exact List.getElem_mem _));omega
 ·have h1:=jl h 0;rw[List.getD_eq_getElem?_getD,List.getElem?_eq_none (by omega)];have:km ((none:Option Int).getD 0)=0:=by decide
  omega
theorem kcf {size high:Int} (hs:size=32∨size=64∨size=128∨size=256∨size=512∨size=1024∨size=2048∨size=4096) (hh:0<high):∀i,0≤qm size high i∧qm size high i<high∧qm size high i<size
 |0=>by simp only[qm];omega
 |i+1=>by
  have ih:=kcf hs hh i;have hsb:=qV (size:=size) (by omega) (qm size high i);obtain⟨m,hm,hm0⟩:=kob hs hsb.1 hsb.2;simp only[qm,kmg];have:=khK hh 5000 m _ hm0 (by omega);have:=kdI (size:=size) (high:=high) (by omega) 5000 _ hsb.1 hsb.2;omega
end Go.Proofs.Ytlclleihoampdaa
