import Derived.Test.YtlclleihoampdaaEX
import Derived.Test.YtlclleihoampdaaED
import Derived.Test.YtlclleihoampdaaEC
set_option linter.unusedVariables false
set_option linter.unusedSimpArgs false
namespace Go.Proofs.Ytlclleihoampdaa
open Go Go.Sx Go.Proofs
set_option maxRecDepth 10000
def krn:XC:=
 .ops [⟨(some 6),.box 99 none (.t 2),none,[]⟩,
   ⟨(some 8),.newR 26 [(.lit .i64 0)],none,[]⟩]
def kro:XC:=
 .ops [⟨(some 17),.mv (.t 0),none,[]⟩,
   ⟨(some 18),.mv (.t 1),none,[]⟩,
   ⟨(some 19),.call (.k (.fn 43 [])) [(.t 17),(.t 18)],none,[]⟩,
   ⟨(some 16),.mv (.t 19),none,[]⟩,
   ⟨(some 20),.extract (.t 16) 0,none,[]⟩,
   ⟨(some 21),.extract (.t 16) 1,none,[]⟩,
   ⟨(some 9),.newR 101 [(.val (.pointer none))],none,[]⟩,
   ⟨none,.store1 (.t 9) (.t 20),none,[]⟩,
   ⟨(some 10),.mv (.t 21),none,[]⟩]
def krp:XC:=
 .seq (.ops [⟨(some 22),.mv (.t 10),none,[]⟩,
   ⟨(some 23),.cmp .neq (.t 22) (.k (.lit .i64 0)),none,[]⟩])
  (.cond (.t 23) (.seq (.ops [⟨(some 24),.mv (.t 10),none,[]⟩,
   ⟨none,.store1 (.t 8) (.t 24),none,[]⟩])
  (.ret)) (.skip))
def krq:XC:=
 .seq (.ops [⟨(some 25),.load1 (.t 9),none,[]⟩,
   ⟨(some 26),.nilchk (.t 25),none,[]⟩,
   ⟨(some 27),.fadr 12 (.t 26),none,[]⟩,
   ⟨(some 28),.load1 (.t 27),none,[]⟩,
   ⟨(some 29),.cmp .gtr (.t 28) (.k (.lit .u64 0)),none,[]⟩])
  (.cond (.t 29) (.seq (.seq (.ops [⟨(some 31),.mv (.t 0),none,[]⟩,
   ⟨(some 32),.load1 (.t 9),none,[]⟩,
   ⟨(some 33),.nilchk (.t 32),none,[]⟩,
   ⟨(some 34),.fadr 12 (.t 33),none,[]⟩,
   ⟨(some 35),.load1 (.t 34),none,[]⟩,
   ⟨(some 36),.bin .sub .u64 (.t 35) (.k (.lit .u64 1)),none,[]⟩,
   ⟨(some 37),.conv .i64 (.t 36),none,[]⟩,
   ⟨(some 38),.call (.k (.fn 72 [])) [(.t 31),(.t 37)],none,[]⟩,
   ⟨(some 30),.mv (.t 38),none,[]⟩,
   ⟨(some 39),.extract (.t 30) 0,none,[]⟩,
   ⟨(some 40),.extract (.t 30) 1,none,[]⟩,
   ⟨(some 11),.mv (.t 39),none,[]⟩,
   ⟨(some 12),.mv (.t 40),none,[]⟩])
  (.seq (.ops [⟨(some 41),.mv (.t 12),none,[]⟩,
   ⟨(some 42),.not (.t 41),none,[]⟩])
  (.cond (.t 42) (.seq (.ops [⟨none,.store1 (.t 8) (.k (.lit .i64 10)),none,[]⟩])
  (.ret)) (.skip))))
  (.seq (.ops [⟨none,.store1 (.t 8) (.k (.lit .i64 0)),none,[]⟩])
  (.ret))) (.skip))
def krr:XC:=
 .ops [⟨(some 43),.mv (.t 3),none,[]⟩,
   ⟨(some 44),.load1 (.t 9),none,[]⟩,
   ⟨(some 45),.nilchk (.t 44),none,[]⟩,
   ⟨(some 46),.fadr 7 (.t 45),none,[]⟩,
   ⟨(some 47),.load1 (.t 46),none,[]⟩,
   ⟨(some 48),.conv .i64 (.t 47),none,[]⟩,
   ⟨(some 49),.call (.t 43) [(.t 48)],none,[]⟩]
def krs:XC:=
 .seq (.seq (.ops [⟨(some 51),.load1 (.t 9),none,[]⟩,
   ⟨(some 52),.mv (.t 0),none,[]⟩,
   ⟨(some 53),.call (.k (.fn 73 [])) [(.t 51),(.t 52)],none,[]⟩])
  (.block 0 (.range (.t 53) [54] (.ops [⟨(some 13),.newR 152 [(.bool false),(.lit .i64 0)],none,[]⟩,
   ⟨none,.storeA 2 (.t 13) (.t 54),none,[]⟩]) (.block 1 (.seq (.seq (.ops [⟨(some 55),.fadr 1 (.t 13),none,[]⟩,
   ⟨(some 56),.load1 (.t 55),none,[]⟩,
   ⟨(some 57),.cmp .neq (.t 56) (.k (.lit .i64 0)),none,[]⟩])
  (.cond (.t 57) (.seq (.ops [⟨(some 58),.fadr 1 (.t 13),none,[]⟩,
   ⟨(some 59),.load1 (.t 58),none,[]⟩,
   ⟨none,.store1 (.t 8) (.t 59),none,[]⟩])
  (.ret)) (.skip)))
  (.seq (.ops [⟨(some 60),.load1 (.t 6),none,[]⟩,
   ⟨(some 61),.load1 (.t 9),none,[]⟩,
   ⟨(some 62),.call (.k (.fn 74 [])) [(.t 61)],none,[(.load1 (.t 6),60,none)]⟩,
   ⟨(some 63),.call (.t 60) [(.t 62)],none,[]⟩,
   ⟨(some 64),.not (.t 63),none,[]⟩])
  (.cond (.t 64) (.seq (.ops [⟨none,.store1 (.t 8) (.k (.lit .i64 41)),none,[]⟩])
  (.ret)) (.skip))))))))
  (.seq (.seq (.ops [⟨(some 65),.load1 (.t 9),none,[]⟩,
   ⟨(some 66),.nilchk (.t 65),none,[]⟩,
   ⟨(some 67),.fadr 10 (.t 66),none,[]⟩,
   ⟨(some 68),.load1 (.t 67),none,[]⟩,
   ⟨(some 69),.mv (.t 68),none,[]⟩,
   ⟨(some 70),.load1 (.t 9),some (69,true),[]⟩,
   ⟨(some 71),.nilchk (.t 70),some (69,true),[]⟩,
   ⟨(some 72),.fadr 13 (.t 71),some (69,true),[]⟩,
   ⟨(some 73),.load1 (.t 72),some (69,true),[]⟩,
   ⟨(some 74),.len (.t 73),some (69,true),[]⟩,
   ⟨(some 75),.conv .u64 (.t 74),some (69,true),[]⟩,
   ⟨(some 76),.load1 (.t 9),some (69,true),[]⟩,
   ⟨(some 77),.nilchk (.t 76),some (69,true),[]⟩,
   ⟨(some 78),.fadr 9 (.t 77),some (69,true),[]⟩,
   ⟨(some 79),.load1 (.t 78),some (69,true),[]⟩,
   ⟨(some 80),.cmp .neq (.t 75) (.t 79),some (69,true),[]⟩,
   ⟨(some 81),.pick (.t 69) (.t 80) (.k (.bool false)),none,[]⟩])
  (.cond (.t 81) (.seq (.ops [⟨none,.store1 (.t 8) (.k (.lit .i64 11)),none,[]⟩])
  (.ret)) (.skip)))
  (.seq (.seq (.ops [⟨(some 82),.load1 (.t 9),none,[]⟩,
   ⟨(some 83),.nilchk (.t 82),none,[]⟩,
   ⟨(some 84),.fadr 11 (.t 83),none,[]⟩,
   ⟨(some 85),.load1 (.t 84),none,[]⟩,
   ⟨(some 86),.not (.t 85),none,[]⟩])
  (.cond (.t 86) (.seq (.ops [⟨none,.store1 (.t 8) (.k (.lit .i64 0)),none,[]⟩])
  (.ret)) (.skip)))
  (.seq (.ops [⟨(some 88),.mv (.t 0),none,[]⟩,
   ⟨(some 89),.call (.k (.fn 72 [])) [(.t 88),(.k (.lit .i64 4))],none,[]⟩,
   ⟨(some 87),.mv (.t 89),none,[]⟩,
   ⟨(some 90),.extract (.t 87) 0,none,[]⟩,
   ⟨(some 91),.extract (.t 87) 1,none,[]⟩,
   ⟨(some 14),.mv (.t 90),none,[]⟩,
   ⟨(some 15),.mv (.t 91),none,[]⟩])
  (.seq (.block 2 (.seq (.ops [⟨(some 93),.mv (.t 15),none,[]⟩,
   ⟨(some 94),.not (.t 93),none,[]⟩,
   ⟨(some 92),.mv (.t 94),none,[]⟩])
  (.cond (.t 92) (.seq (.ops [⟨none,.store1 (.t 8) (.k (.lit .i64 10)),none,[]⟩])
  (.ret)) (.seq (.ops [⟨(some 96),.mv (.t 14),none,[]⟩,
   ⟨(some 98),.load1 (.t 9),none,[]⟩,
   ⟨(some 99),.nilchk (.t 98),none,[]⟩,
   ⟨(some 100),.fadr 13 (.t 99),none,[]⟩,
   ⟨(some 101),.load1 (.t 100),none,[]⟩,
   ⟨(some 97),.call (.k (.fn 75 [])) [(.t 96)],none,[(.load1 (.t 100),101,none),(.load1 (.t 9),98,none)]⟩,
   ⟨(some 102),.call (.k (.fn 76 [])) [(.t 101)],none,[(.load1 (.t 9),98,none)]⟩,
   ⟨(some 103),.bin .and .u64 (.t 102) (.k (.lit .u64 4294967295)),none,[]⟩,
   ⟨(some 104),.cmp .neq (.t 97) (.t 103),none,[]⟩,
   ⟨(some 95),.mv (.t 104),none,[]⟩])
  (.cond (.t 95) (.seq (.ops [⟨none,.store1 (.t 8) (.k (.lit .i64 11)),none,[]⟩])
  (.ret)) (.skip))))))
  (.seq (.ops [⟨none,.store1 (.t 8) (.k (.lit .i64 0)),none,[]⟩])
  (.ret))))))
def w39:XW:=.more krn (.more kro (.more krp (.more krq (.more krr (.last 3 50 .i64 0 krs)))))
theorem fw39:FnW Try.prog 39 w39 105 [1000008]:=FnW.of Try.call39 Try.func39 (by kernel_rfl) Try.ntmps39 (by kernel_rfl)
theorem d41 (w:World):CallsDIn (FR Try.prog none) 0 Try.prog 41 #[.int .i64 0] .returning w fun e u' w'=>(∃v,e=.returned v)∧u'=.returning∧w'=w:=kim Try.func41 (by kernel_rfl) (by kernel_rfl) _ w
theorem kj:Try.prog.follows .mixedOrders=true:=by kernel_rfl
end Go.Proofs.Ytlclleihoampdaa
namespace Go.Proofs.Ytlclleihoampdaa
open Go Go.Sx
def ji (l:List Int):Nat→Nat→Int
 |_,0=>0
 |i,n+1=>ji l i n+l.getD (i+n) 0*2^n
def pack (bs:List Int):List Int:=(List.range ((bs.length+7) / 8)).map fun i=>ji bs (8*i) 8
def kpT (x:Int) (n:Nat):List Int:=(List.range n).map fun k=>x / 2^k % 2
def kin (b:Int):Prop:=b=0∨b=1
theorem qh (l:List Int) (h:∀b∈l,kin b) (i:Nat):∀n,0≤ji l i n∧ji l i n<2^n
 |0=>by simp[ji]
 | n+1=>by
  obtain⟨h0,h1⟩:=qh l h i n;have hb:l.getD (i+n) 0=0∨l.getD (i+n) 0=1:=by
   rw[List.getD_eq_getElem?_getD];cases hg:l[i+n]? with
   |none=>left;rfl
   |some b=>exact h b (List.mem_of_getElem? hg)
  have hp:(2:Int)^(n+1)=2^n+2^n:=by rw[Int.pow_succ];omega
  simp only[ji];rcases hb with hb|hb<;>rw[hb,hp]<;>constructor<;>omega
def room (bs:List Int):List Int:=if bs.length % 8=0 then pack bs++[0] else pack bs
end Go.Proofs.Ytlclleihoampdaa
namespace Go.Proofs.Ytlclleihoampdaa
open Go Go.Sx Go.Proofs
def qY (b:List Int) (k:Int):Int:=if 0≤k then b.getD (k / 8).toNat 0 / 2^(k % 8).toNat % 2 else 0
def rd (b:List Int) (p:Int):Nat→Int
 |0=>0
 |n+1=>rd b p n*2+qY b (p-1-n)
def isByte (x:Int):Prop:=0≤x∧x<256
theorem kgp (b:List Int) (k:Int):0≤qY b k∧qY b k<2:=by unfold qY;split<;>omega
theorem jg (b:List Int) (p:Int):∀n,0≤rd b p n∧rd b p n<2^n
 |0=>by simp[rd]
 |n+1=>by
  have h:=jg b p n;have h2:=kgp b (p-1-n);have hp:(2:Int)^(n+1)=2^n*2:=Int.pow_succ _ _;simp only[rd];omega
theorem kch {n:Nat} (h:n≤56):(2:Int)^n≤72057594037927936:=by
 have:(2:Int)^n≤2^56:=by exact_mod_cast Nat.pow_le_pow_right (by decide) h
 exact this
theorem kgq {k:IntKind} (h:k.signed=false) {x y:Int}:bV .or k x y=bV .or k y x:=by
 show k.wrap _=k.wrap _
 rw[BitVec.or_comm]
def jO (n:Int):Nat:=(if (if 0>n then 0 else n)>56 then 56 else(if 0>n then 0 else n)).toNat
theorem klw (n:Int):jO n≤56:=by unfold jO;split<;>split<;>omega
def qD (p:Int):Int:=if p < -1099511627776 then -1099511627776 else p
set_option maxHeartbeats 2000000 in
theorem kfr (b:List Int) (cap:Nat) (p n:Int) (hb:∀x∈b,isByte x) (hp : -1099511627776≤p∧p≤8*b.length) (hl:b.length≤2^48) :
  Con Try.prog 36 [.ptr 0 .z 2 0,.int .i64 n] [.one 143 [.slice 1 .z 1 b.length cap,.int .i64 p],.ro .u8 b]
   (fun v H R=>v=.int .u64 (rd b p (jO n))∧R=[]∧H=[.one 143 [.slice 1 .z 1 b.length cap,.int .i64 (qD (p-jO n))],.ro .u8 b]):=by
 refine kf (kw 2 (by simp) (ju [] (kc kj krU ?_)))
 intro vb _ vw vtoN _ vaddN _ vmaxI vminI _ vgd _ vln _ _ _ _ _ _ _ _ hw qb qc qw qtoN _ qaddN _ qmaxI qminI _ qgd _ qln _ _ _ _ _ _ _ _;have hm:=kj;generalize Try.prog=P at *;generalize hlen:b.length=len at *;generalize hF:qD (p-jO n)=F;generalize hV:rd b p (jO n)=V;cbv;have hN:vminI (vmaxI n 0) 56=(jO n:Nat):=by rw[qmaxI,qminI];unfold jO;simp only[nc];split<;>split<;>omega
 have hN56:=klw n;generalize jO n=N at *;rw[hN];generalize hNN:((N:Nat):Int)=N0 at *;refine kG (α:=Int×Int) [6,7,15,16,17,18,19,20,21,22,23,24,25,26,27,28,29,30,31,32,33,34,35,36,37,38,39,40,41,42,43,44,45] []
  (fun(x,k)=>[(5,.int .u64 x),(14,.int .i64 k)]) (fun(x,k)=>[])
  (fun(x,k)=>∃i:Nat,k=i∧i≤N∧x=rd b p i) (fun(x,k)=>N-k.toNat) hw hm ?_ ?_
 ·refine Cv.genAt [5,14] [] (Cv.fold [6,7,15,16,17,18,19,20,21,22,23,24,25,26,27,28,29,30,31,32,33,34,35,36,37,38,39,40,41,42,43,44,45] 2 [] (by exact Nat.le_refl _) (by exact Nat.le_refl _) (by rfl) (by cbv) ?_)
  intro js;refine⟨(_,_),?_,js,rfl⟩
  exact⟨0,rfl,by omega,rfl⟩
 ·rintro⟨x,k⟩ js ⟨i,hk,hi,hx⟩;cbv;have hx2:=jg b p i;split
  ·rename_i hlt;have hlt:i<N:=by rw[qc,ko] at hlt;simp only[nc] at *;omega
   have hpk:vb .sub .i64 (vb .sub .i64 p 1) k=p-1-i:=by
    simp only[nc] at *;rw[qb,kJ (x:=p) (by omega) (by omega),kJ (by omega) (by omega),hk]
   have hk1:vb .add .i64 k 1=((i+1:Nat):Int):=by simp only[nc] at *;rw[qb,ku (by omega) (by omega)];omega
   have hp56:=kch (show i≤56 by omega);have hshl:vb .shl .u64 x 1=rd b p i*2:=by
    rw[qb,hx,kaI rfl hx2.1 (by decide) (by show _*(2:Int)^1<2^64;omega)];rfl
   cbv;split
   ·rename_i hge;have hge:0≤p-1-(i:Int):=by rw[qc,hpk,jm] at hge;simp only[nc] at *;exact hge
    have hbit:qY b (p-1-i)=b.getD ((p-1-i) / 8).toNat 0 / 2^((p-1-i) % 8).toNat % 2:=by unfold qY;rw[if_pos hge]
    generalize hz:p-1-(i:Int)=z at *;have hz8:vb .quo .i64 z 8=z / 8:=by simp only[nc] at *;rw[qb,kcd (by omega) (by omega) (by omega)]
    have hr8:vb .rem .i64 z 8=z % 8:=by simp only[nc] at *;rw[qb,kg5 (by omega)]
    have hw8:vw .u64 (z % 8)=z % 8:=by simp only[nc] at *;rw[qw];exact wrap_u64 (by omega) (by omega)
    have hin:0≤vb .quo .i64 z 8∧vb .quo .i64 z 8<len:=by rw[hz8];simp only[nc] at *;omega
    have hlt2:vtoN (vb .quo .i64 z 8)<vln b:=by rw[hz8,qtoN,qln];simp only[nc] at *;omega
    have hlt3:vaddN 0 (vtoN (vb .quo .i64 z 8))<vln b:=by rw[qaddN];simpa using hlt2
    have hnn:0≤vw .u64 (vb .rem .i64 z 8):=by rw[hr8,hw8];omega
    have hval:vb .or .u64 (vb .shl .u64 x 1) (vb .and .u64 (vw .u64 (vb .shr .u8 (vgd b (vtoN (vb .quo .i64 z 8))) (vw .u64 (vb .rem .i64 z 8)))) 1)=rd b p (i+1):=by
     rw[hshl,hr8,hw8,hz8,qb,jE (by show z % 8≤((8:Nat):Int);omega),qgd,qtoN,qw];show bV .or .u64 (rd b p i*2) (bV .and .u64 (IntKind.u64.wrap (b.getD (z / 8).toNat 0 / 2^(z % 8).toNat)) 1)=_
     have hbyte:isByte (b.getD (z / 8).toNat 0):=by
      rw[List.getD_eq_getElem?_getD];cases hg:b[(z / 8).toNat]? with
      |none=>exact⟨by simp,by simp⟩
      |some y=>exact hb y (List.mem_of_getElem? hg)
     generalize b.getD (z / 8).toNat 0=y at *;have h1:0≤y / 2^(z % 8).toNat:=Int.ediv_nonneg hbyte.1 (Int.le_of_lt (Int.pow_pos (by decide)));have h2:y / 2^(z % 8).toNat≤y:=Int.ediv_le_self _ hbyte.1;have h3:=hbyte.2;rw[wrap_u64 h1 (by omega),and_one rfl h1 (by show _<(2:Int)^64;omega)];have e:rd b p (i+1)=rd b p i*2+y / 2^(z % 8).toNat % 2:=by rw[rd,hz,hbit]
     rw[e];have h4:0≤y / 2^(z % 8).toNat % 2∧y / 2^(z % 8).toNat % 2<2:=by omega
     generalize y / 2^(z % 8).toNat % 2=t at *;have:=kdE (k:=.u64) rfl (x:=t) (b:=rd b p i) 1 h4.1 (by omega) hx2.1 (by show _<(2:Int)^64;omega);rw[kgq rfl];simpa [Int.add_comm] using this
    cbv;rw[hpk];refine⟨⟨hin⟩,⟨hlt3⟩,⟨hlt2⟩,⟨hnn⟩,?_⟩
    refine Cv.genAt [5,14] [] (Cv.fold [6,7,15,16,17,18,19,20,21,22,23,24,25,26,27,28,29,30,31,32,33,34,35,36,37,38,39,40,41,42,43,44,45] 2 [] (by exact Nat.le_refl _) (by exact Nat.le_refl _) (by rfl) (by cbv) ?_)
    intro js;refine⟨(_,_),?_,js,rfl⟩
    exact⟨⟨i+1,hk1,hlt,hval⟩,by show N-(vb .add .i64 k 1).toNat<N-k.toNat;rw[hk1,hk];simp only[nc] at *;omega⟩
   ·rename_i hge;have hge:¬0≤p-1-(i:Int):=by rw[qc,hpk,kZ] at hge;simp only[nc] at *;exact hge
    have hbit:qY b (p-1-i)=0:=by unfold qY;rw[if_neg hge]
    have hval:vb .shl .u64 x 1=rd b p (i+1):=by rw[hshl,rd,hbit];omega
    cbv;refine Cv.genAt [5,14] [] (Cv.fold [6,7,15,16,17,18,19,20,21,22,23,24,25,26,27,28,29,30,31,32,33,34,35,36,37,38,39,40,41,42,43,44,45] 2 [] (by exact Nat.le_refl _) (by exact Nat.le_refl _) (by rfl) (by cbv) ?_)
    intro js;refine⟨(_,_),?_,js,rfl⟩
    exact⟨⟨i+1,hk1,hlt,hval⟩,by show N-(vb .add .i64 k 1).toNat<N-k.toNat;rw[hk1,hk];simp only[nc] at *;omega⟩
  ·rename_i hge;have hin:i=N:=by rw[qc,km] at hge;simp only[nc] at *;omega
   subst hin;have hs:vb .sub .i64 p N0=p-N0:=by simp only[nc] at *;rw[qb,kJ (by omega) (by omega)]
   cbv;split
   ·rename_i hf;have hf:qD (p-N0) = -1099511627776:=by rw[qc,hs,ko] at hf;unfold qD;rw[if_pos hf]
    cbv;refine⟨?_,?_⟩<;>simp only[hx,hV,show F = -1099511627776 by rw[←hF,←hf,←hNN]]
   ·rename_i hf;have hf:qD (p-N0)=p-N0:=by rw[qc,hs,km] at hf;unfold qD;rw[if_neg hf]
    cbv;refine⟨?_,?_⟩<;>simp only[hx,hV,hs,show F=p-N0 by rw[←hF,←hf,←hNN]]
theorem kb (l:List Int):qp 0 l l:=⟨⟨by omega,fun i _=>by rw[Nat.zero_add]⟩⟩
theorem kfs (b:List Int) (len cap:Nat) (p:Int):Con Try.prog 37 [.ptr 0 .z 2 0] [.one 143 [.slice 1 .z 1 len cap,.int .i64 p],.ro .u8 b]
      (fun v H R=>v=.int .i64 p∧R=[]∧H=[.one 143 [.slice 1 .z 1 len cap,.int .i64 p],.ro .u8 b]):=by
  refine kc kj kqV ?_
  intro _ _ _ _ _ _ _ _ _ _ _ _ _ _ _ _ _ _ _ _ _ _ _ _ _ _ _ _ _ _ _ _ _ _ _ _ _ _ _ _ _ _ _;generalize Try.prog=P at *;cbv
def len8 (x:Int):Int:=if x<1 then 0 else if x<2 then 1 else if x<4 then 2 else if x<8 then 3 else if x<16 then 4 else if x<32 then 5 else if x<64 then 6 else if x<128 then 7 else 8
def lenTab:List Int:=[0,1,2,2,3,3,3,3,4,4,4,4,4,4,4,4,5,5,5,5,5,5,5,5,5,5,5,5,5,5,5,5,6,6,6,6,6,6,6,6,6,6,6,6,6,6,6,6,6,6,6,6,6,6,6,6,6,6,6,6,6,6,6,6,7,7,7,7,7,7,7,7,7,7,7,7,7,7,7,7,7,7,7,7,7,7,7,7,7,7,7,7,7,7,7,7,7,7,7,7,7,7,7,7,7,7,7,7,7,7,7,7,7,7,7,7,7,7,7,7,7,7,7,7,7,7,7,7,8,8,8,8,8,8,8,8,8,8,8,8,8,8,8,8,8,8,8,8,8,8,8,8,8,8,8,8,8,8,8,8,8,8,8,8,8,8,8,8,8,8,8,8,8,8,8,8,8,8,8,8,8,8,8,8,8,8,8,8,8,8,8,8,8,8,8,8,8,8,8,8,8,8,8,8,8,8,8,8,8,8,8,8,8,8,8,8,8,8,8,8,8,8,8,8,8,8,8,8,8,8,8,8,8,8,8,8,8,8,8,8,8,8,8,8,8,8,8,8,8,8,8,8,8,8,8,8]
set_option maxRecDepth 100000 in
theorem klx (n:Fin 256):IntKind.i64.wrap (((UInt8.ofNat (lenTab.getD n.val 0).toNat).toNat:Nat):Int)=len8 (n.val:Int):=by
  revert n
  decide +kernel
set_option maxRecDepth 100000 in
theorem kmZ (x:Int) (hx:isByte x):Con Try.prog 71 [.int .u8 x] [] (fun v H R=>v=.int .i64 (len8 x)∧H=[]∧R=[]):=by
  obtain⟨n,rfl⟩:∃n:Nat,x=n:=⟨x.toNat,by have:=hx.1;omega⟩;have hn:n<256:=by have:=hx.2;omega
  have hL:=klx ⟨n,hn⟩;refine kc kj kr9 ?_
  intro _ _ _ _ _ _ _ _ _ _ _ _ _ _ _ _ _ _ _ _ _ _ _ _ qw qtoN _ _ _ _ _ _ qgd _ qln _ _ _ _ _ qbyteV _ _;generalize Try.prog=P at *;generalize len8 (n:Int)=L at *;generalize hnn:(n:Int)=x at *;have hx35:x71=(.seq (.ops [⟨(some 2),.mv (.k (.lit .i64 0)),none,[]⟩])
    (.seq (.ops [⟨(some 3),.mv (.t 0),none,[]⟩,
      ⟨(some 4),.idxS (.k (.str lenTab)) (.t 3),none,[]⟩,
      ⟨(some 5),.conv .i64 (.t 4),none,[]⟩,
      ⟨(some 2),.mv (.t 5),none,[]⟩])
    (.ret))):=rfl
  rw[hx35];have hl:lenTab.length=256:=by rfl
  generalize lenTab=T at *;cbv;refine⟨⟨?_⟩,?_⟩
  · simp only[qln,hl];simp only[nc] at *;omega
  · rw[qw,qbyteV,qgd,qtoN]
    subst hnn;exact⟨congrArg (SV.int .i64) hL,trivial⟩
theorem qO (b:List Int):b.getLastD 0=b.getD (b.length-1) 0:=by
  rw[List.getLastD_eq_getLast?,List.getLast?_eq_getElem?,List.getD_eq_getElem?_getD]
theorem kg7 (b:List Int) (cap:Nat) (hb:b.getLastD 0=0) (hl:b.length≤2^48):Con Try.prog 35 [.slice 0 .z 1 b.length cap] [.ro .u8 b] (fun v H R=>v=.tup [.val (.pointer none),.lit .i64 11]∧H=[.ro .u8 b]∧R=[]):=by
  refine kw 1 (by simp) (ju [] (kc kj kqb ?_))
  intro vb vc _ vtoN vofN vaddN _ _ _ _ vgd _ vln _ _ _ _ _ _ _ _ _ qb qc _ qtoN qofN qaddN _ _ _ _ qgd _ qln _ _ _ _ _ _ _ _;generalize Try.prog=P at *;rw[qO] at hb;generalize hlen:b.length=len at *;cbv;generalize h0:vc .eql (vofN len) 0=z0;cases z0
  rotate_left
  · cbv
  · have h0:1≤len:=by rw[qc,qofN,kh] at h0;simp only[nc] at *;omega
    have hsub:vb .sub .i64 (vofN len) 1=len-1:=by rw[qb,qofN];simp only[nc] at *;rw[kJ (by omega) (by omega)]
    have hin:0≤vb .sub .i64 (vofN len) 1∧vb .sub .i64 (vofN len) 1<len:=by rw[hsub];simp only[nc] at *;omega
    have hi:vtoN (vb .sub .i64 (vofN len) 1)=len-1:=by rw[hsub,qtoN];simp only[nc] at *;omega
    have hlt2:vtoN (vb .sub .i64 (vofN len) 1)<vln b:=by rw[hi,qln];simp only[nc] at *;omega
    have hlt3:vaddN 0 (vtoN (vb .sub .i64 (vofN len) 1))<vln b:=by rw[qaddN];simpa using hlt2
    cbv;refine⟨⟨hin⟩,⟨hlt3⟩,⟨hlt2⟩,?_⟩
    have hz:vc .eql (vgd b (vtoN (vb .sub .i64 (vofN len) 1))) 0=true:=by rw[hi,qgd,qc,kt];exact hb
    rw[hz];cbv
theorem kft (b:List Int) (cap:Nat) (hb:b.getLastD 0≠0) (hby:∀x∈b,isByte x) (hl:b.length≤140737488355328):Con Try.prog 35 [.slice 0 .z 1 b.length cap] [.ro .u8 b]
    (fun v H R=>v=.tup [.ptr 2 .z 2 0,.lit .i64 0]∧R=[1]∧∃c',H=[.ro .u8 b,.buf 5 .u8 b c',.one 143 [.slice 1 .z 1 b.length c',.int .i64 (8*(b.length-1)+(len8 (b.getLastD 0)-1))]]):=by
  have hbyte:isByte (b.getLastD 0):=by
    rw[qO,List.getD_eq_getElem?_getD];cases hg:b[b.length-1]? with
    |none=>exact⟨by simp,by simp⟩
    |some y=>exact hby y (List.mem_of_getElem? hg)
  have hlen8:=kmZ (b.getLastD 0) hbyte;have hL8:0≤len8 (b.getLastD 0)∧len8 (b.getLastD 0)≤8:=by unfold len8;(repeat' split)<;>omega
  refine kw 3 (by simp) (ju [1] (kc kj kqb ?_))
  intro vb vc _ vtoN vofN vaddN _ _ _ _ vgd _ vln _ vsub vonto _ _ _ _ _ _ qb qc _ qtoN qofN qaddN _ _ _ _ qgd _ qln _ qsub qonto _ _ _ _ _;generalize Try.prog=P at *;generalize len8 (b.getLastD 0)=L at *;generalize hF:(8*((b.length:Int)-1)+(L-1))=F;rw[qO] at *
  have h0:1≤b.length:=by
    rcases b with _|⟨x,b⟩
    · exact absurd rfl hb
    · simp
  generalize hlen:b.length=len at *;generalize hlast:b.getD (len-1) 0=last at *;cbv;have e0:vc .eql (vofN len) 0=false:=by rw[qc,qofN,kh];simp only[nc] at *;omega
  rw[e0];have hsub:vb .sub .i64 (vofN len) 1=len-1:=by rw[qb,qofN];simp only[nc] at *;rw[kJ (by omega) (by omega)]
  have hin:0≤vb .sub .i64 (vofN len) 1∧vb .sub .i64 (vofN len) 1<len:=by rw[hsub];simp only[nc] at *;omega
  have hi:vtoN (vb .sub .i64 (vofN len) 1)=len-1:=by rw[hsub,qtoN];simp only[nc] at *;omega
  have hlt2:vtoN (vb .sub .i64 (vofN len) 1)<vln b:=by rw[hi,qln];simp only[nc] at *;omega
  have hlt3:vaddN 0 (vtoN (vb .sub .i64 (vofN len) 1))<vln b:=by rw[qaddN];simpa using hlt2
  have hval:vgd b (vtoN (vb .sub .i64 (vofN len) 1))=last:=by rw[hi,qgd];exact hlast
  have hz:vc .eql (vgd b (vtoN (vb .sub .i64 (vofN len) 1))) 0=false:=by rw[hval,qc,kh];exact hb
  cbv;refine⟨⟨hin⟩,⟨hlt3⟩,⟨hlt2⟩,?_⟩
  rw[hz];cbv;refine⟨⟨hin⟩,⟨hlt3⟩,⟨hlt2⟩,?_⟩
  rw[hval];refine ka (ρ:=[]) hlen8 ⟨by rfl,by rfl,by rfl,by cbv⟩ ?_
  rintro v H R js ⟨rfl,rfl,rfl⟩;cbv;have ha:vaddN 0 len=len:=by simp only[qaddN,Nat.zero_add]
  have hpay:vonto [] 0 (vsub b 0 len)=b:=by simp only[qonto,qsub];simp[←hlen]
  have hpos:vb .add .i64 (vb .mul .i64 8 (vb .sub .i64 (vofN len) 1)) (vb .sub .i64 L 1)=F:=by
    rw[hsub,←hF];simp only[nc] at *
    rw[qb,kcc (by omega) (by omega),kJ (x:=L) (by omega) (by omega),ku (by omega) (by omega)]
  refine⟨⟨?_⟩,⟨?_⟩,⟨?_⟩,⟨?_⟩,?_⟩
  · rw[ha,qln];exact Nat.le_of_eq hlen.symm
  · exact Nat.zero_le _
  · exact Nat.zero_le _
  · rw[ha];omega
  intro c1 js1 hle;cbv;rw[ha,hpay,hpos];exact⟨c1,rfl⟩
end Go.Proofs.Ytlclleihoampdaa
namespace Go.Proofs.Ytlclleihoampdaa
open Go Go.Sx
end Go.Proofs.Ytlclleihoampdaa
namespace Go.Proofs.Ytlclleihoampdaa
open Go Go.Sx Go.Proofs
end Go.Proofs.Ytlclleihoampdaa
namespace Go.Proofs.Ytlclleihoampdaa
open Go Go.Sx
theorem kaZ {l:List Int} {i:Nat} (h:i<l.length):l.take (i+1)=l.take i++[l.getD i 0]:=by
 rw[List.take_succ_eq_append_getElem h];simp[List.getD_eq_getElem?_getD,h]
end Go.Proofs.Ytlclleihoampdaa
namespace Go.Proofs.Ytlclleihoampdaa
open Go Go.Sx Go.Proofs
def bitsOf (b:List Int) (k:Nat):List Int:=(List.range k).map fun(i:Nat)=>qY b (i:Int)
theorem kjv (b:List Int) (k i:Nat) (h:i<k):(bitsOf b k).getD i 0=qY b i:=by simp[bitsOf,List.getD_eq_getElem?_getD,h]
def jd (b:List Int):Int:=8*((b.length:Int)-1)+(len8 (b.getLastD 0)-1)
theorem kly {x:Int} (h0:0<x) (h1:x<256):1≤len8 x∧len8 x≤8∧x / 2^(len8 x-1).toNat % 2=1∧∀j:Nat,len8 x≤j→x / 2^j=0:=by
 have hlt:x<2^(len8 x).toNat:=by unfold len8;(repeat' split)<;>first|omega|(simp;omega)
 have h8:1≤len8 x∧len8 x≤8:=by unfold len8;(repeat' split)<;>omega
 refine⟨h8.1,h8.2,?_,fun j hj=>?_⟩
 ·unfold len8;(repeat' split)<;>simp<;>omega
 ·have hp:(2:Int)^(len8 x).toNat≤2^j:=by exact_mod_cast Nat.pow_le_pow_right (by decide) (by omega)
  exact Int.ediv_eq_zero_of_lt (by omega) (by omega)
theorem kbU (b:List Int) (hb:b.getLastD 0≠0) (hby:∀x∈b,isByte x):∃P:Nat,jd b=P∧P<8*b.length∧qY b P=1∧∀k:Nat,P<k→k<8*b.length→qY b k=0:=by
 have hbyte:isByte (b.getLastD 0):=by
  rw[qO,List.getD_eq_getElem?_getD];cases hg:b[b.length-1]? with
  |none=>exact⟨by simp,by simp⟩
  |some y=>exact hby y (List.mem_of_getElem? hg)
 have h0:1≤b.length:=by
  rcases b with _|⟨x,b⟩
  ·exact absurd rfl hb
  ·simp
 obtain⟨h1,h2,h3,h4⟩:=kly (x:=b.getLastD 0) (by have:=hbyte.1;omega) hbyte.2;have hlast:=qO b;unfold jd;generalize b.getLastD 0=x at *;refine⟨8*(b.length-1)+(len8 x-1).toNat,by omega,by omega,?_,fun k hk1 hk2=>?_⟩
 ·unfold qY;rw[if_pos (by omega)];have e1:((((8*(b.length-1)+(len8 x-1).toNat:Nat)):Int) / 8).toNat=b.length-1:=by omega
  have e2:((((8*(b.length-1)+(len8 x-1).toNat:Nat)):Int) % 8).toNat=(len8 x-1).toNat:=by omega
  rw[e1,e2,←hlast];exact h3
 ·unfold qY;rw[if_pos (by omega)];have e1:((k:Int) / 8).toNat=b.length-1:=by omega
  rw[e1,←hlast,h4 _ (by omega)];rfl
theorem kar {b:List Int} (hby:∀x∈b,isByte x) (i:Nat):isByte (b.getD i 0):=by
 rw[List.getD_eq_getElem?_getD];cases hg:b[i]? with
 |none=>exact⟨by simp,by simp⟩
 |some y=>exact hby y (List.mem_of_getElem? hg)
end Go.Proofs.Ytlclleihoampdaa
namespace Go.Proofs.Ytlclleihoampdaa
open Go Go.Sx
theorem kbm (l:List Int) (i n:Nat):∀m,ji l i (n+m)=ji l i n+ji l (i+n) m*2^n
 |0=>by simp[ji]
 |m+1=>by
  rw[show n+(m+1)=(n+m)+1 from rfl];simp only[ji];rw[kbm l i n m,Int.pow_add,Int.add_mul,Nat.add_assoc];have:l.getD (i+(n+m)) 0*(2^n*2^m)=l.getD (i+(n+m)) 0*2^m*2^n:=by rw[Int.mul_comm (2^n),Int.mul_assoc]
  omega
def jw (b:List Int):List Int:=bitsOf b (8*b.length)
theorem ka0 (b:List Int):∀x∈jw b,kin x:=by
 intro x hx;obtain⟨i,_,rfl⟩:=List.mem_map.1 hx;have:=kgp b (i:Int);unfold kin;omega
theorem km0 (b:List Int) (i:Nat) (h:i<8*b.length):(jw b).getD i 0=qY b i:=kjv b _ i h
theorem klz {x:Int} (h:isByte x):x / 2^0 % 2*2^0+x / 2^1 % 2*2^1+x / 2^2 % 2*2^2+x / 2^3 % 2*2^3+x / 2^4 % 2*2^4+x / 2^5 % 2*2^5+x / 2^6 % 2*2^6+x / 2^7 % 2*2^7=x:=by
 obtain⟨h0,h1⟩:=h;simp only[Int.reducePow];omega
theorem kgr (b:List Int) (hby:∀x∈b,isByte x) (i:Nat) (h:i<b.length):ji (jw b) (8*i) 8=b.getD i 0:=by
 have hg:∀j:Nat,j<8→(jw b).getD (8*i+j) 0=b.getD i 0 / 2^j % 2:=fun j hj=>by
  rw[km0 b _ (by omega)];unfold qY;rw[if_pos (by omega)];have e1:(((8*i+j:Nat):Int) / 8).toNat=i:=by omega
  have e2:(((8*i+j:Nat):Int) % 8).toNat=j:=by omega
  rw[e1,e2]
 have hb:=klz (kar hby i);simp only[ji];rw[hg 0 (by omega),hg 1 (by omega),hg 2 (by omega),hg 3 (by omega),hg 4 (by omega),hg 5 (by omega),hg 6 (by omega),hg 7 (by omega)];rw[Int.zero_add];exact hb
theorem km1 (l:List Int) (h:∀b∈l,kin b) (i n m:Nat):ji l i (n+m) % 2^n=ji l i n∧ji l i (n+m) / 2^n=ji l (i+n) m:=by
 have hb:=qh l h i n;have hp:(0:Int)<2^n:=Int.pow_pos (by decide);rw[kbm];constructor
 ·rw[Int.add_mul_emod_self_right];exact Int.emod_eq_of_lt hb.1 hb.2
 ·rw[Int.add_mul_ediv_right _ _ (by omega),Int.ediv_eq_zero_of_lt hb.1 hb.2];omega
end Go.Proofs.Ytlclleihoampdaa
namespace Go.Proofs.Ytlclleihoampdaa
open Go Go.Sx Go.Proofs
theorem kkg (b:List Int) (at' cap:Nat) (h:at'<b.length) (hl:b.length≤2^60) :
  Con Try.prog 121 [.ptr 0 .z 1 0,.ptr 1 .z 1 0] [.one 3 [.int .i64 at'],.one 25 [.slice 2 .z 1 b.length cap],.ro .u8 b]
   (fun v H R=>v=.tup [.int .u8 (b.getD at' 0),.bool true]∧R=[]∧H=[.one 3 [.int .i64 ((at'+1:Nat):Int)],.one 25 [.slice 2 .z 1 b.length cap],.ro .u8 b]):=by
 refine kc kj kpQ ?_
 intro vb vc _ vtoN vofN vaddN _ _ _ _ vgd _ vln _ _ _ _ _ _ _ _ _ qb qc _ qtoN qofN qaddN _ _ _ _ qgd _ qln _ _ _ _ _ _ _ _;generalize Try.prog=P at *;generalize hlen:b.length=len at *;generalize hv:b.getD at' 0=v0;generalize ha1:((at'+1:Nat):Int)=a1;generalize ha:((at':Nat):Int)=a0;cbv;have e1:vc .geq a0 (vofN len)=false:=by simp only[qc,qofN];rw[kZ];simp only[nc] at *;omega
 have e2:vb .add .i64 a0 1=a1:=by simp only[nc] at *;rw[qb,ku (by omega) (by omega)];omega
 have e3:vb .sub .i64 a1 1=a0:=by simp only[nc] at *;rw[qb,kJ (by omega) (by omega)];omega
 have hin:0≤a0∧a0<len:=by simp only[nc] at *;omega
 have ht:vtoN a0=at':=by simp only[qtoN];simp only[nc] at *;omega
 have hlt:vtoN a0<vln b:=by rw[ht];simp only[qln];omega
 have hlt2:vaddN 0 (vtoN a0)<vln b:=by simp only[qaddN,Nat.zero_add];exact hlt
 have hval:vgd b (vtoN a0)=v0:=by rw[ht];simp only[qgd];exact hv
 rw[e1];cbv;rw[e2,e3,hval];exact⟨⟨hin⟩,⟨hlt2⟩,⟨hlt⟩,rfl,rfl⟩
theorem km2 (b:List Int) (cap:Nat) (hl:b.length≤2^60) :
  Con Try.prog 121 [.ptr 0 .z 1 0,.ptr 1 .z 1 0] [.one 3 [.int .i64 b.length],.one 25 [.slice 2 .z 1 b.length cap],.ro .u8 b]
   (fun v H R=>v=.tup [.lit .u8 0,.bool false]∧R=[]∧H=[.one 3 [.int .i64 b.length],.one 25 [.slice 2 .z 1 b.length cap],.ro .u8 b]):=by
 refine kc kj kpQ ?_
 intro _ vc _ _ vofN _ _ _ _ _ _ _ _ _ _ _ _ _ _ _ _ _ _ qc _ _ qofN _ _ _ _ _ _ _ _ _ _ _ _ _ _ _ _;generalize Try.prog=P at *;generalize hlen:b.length=len at *;generalize ha:((len:Nat):Int)=a0;cbv;have e1:vc .geq a0 (vofN len)=true:=by simp only[qc,qofN];rw[jm];simp only[nc] at *;omega
 rw[e1];cbv
theorem klA (b:List Int) (at' cap:Nat) (h:at'≤b.length) (hl:b.length≤2^50) :
  Con Try.prog 122 [.ptr 1 .z 1 0,.ptr 0 .z 1 0] [.one 3 [.int .i64 at'],.one 25 [.slice 2 .z 1 b.length cap],.ro .u8 b]
   (fun v H R=>v=.int .i64 (8*((b.length:Int)-at'))∧R=[]∧H=[.one 3 [.int .i64 at'],.one 25 [.slice 2 .z 1 b.length cap],.ro .u8 b]):=by
 refine kc kj kra ?_
 intro vb _ _ _ vofN _ _ _ _ _ _ _ _ _ _ _ _ _ _ _ _ _ qb _ _ _ qofN _ _ _ _ _ _ _ _ _ _ _ _ _ _ _ _;generalize Try.prog=P at *;generalize hlen:b.length=len at *;generalize hr:8*((len:Int)-at')=r;generalize ha:((at':Nat):Int)=a0;have e1:vb .mul .i64 8 (vb .sub .i64 (vofN len) a0)=r:=by simp only[qb,qofN];rw[kJ (by omega) (by omega),kcc (by omega) (by omega)];omega
 cbv;rw[e1];trivial
set_option maxHeartbeats 4000000 in
theorem kor (b:List Int) (pos at' cap n:Nat) (hby:∀x∈b,isByte x) (hl:b.length≤2^50) (hp:pos≤8*at') (hp2:8*at'≤pos+63) (ha:at'≤b.length) (hn:n≤56) (hen:pos+n≤8*b.length) :
  Con Try.prog 123 [.ptr 0 .z 4 0,.int .i64 n] [(.one 215 [.fn 121 [.ptr 1 .z 1 0,.ptr 2 .z 1 0],.int .u64 (ji (jw b) pos (8*at'-pos)),.int .i64 (((8*at'-pos:Nat):Int)),.fn 122 [.ptr 2 .z 1 0,.ptr 1 .z 1 0]]),.one 3 [.int .i64 at'],.one 25 [.slice 3 .z 1 b.length cap],.ro .u8 b]
   (fun v H R=>v=.bool true∧R=[]∧∃a2:Nat,pos+n≤8*a2∧8*a2≤pos+63∧a2≤b.length∧H=[(.one 215 [.fn 121 [.ptr 1 .z 1 0,.ptr 2 .z 1 0],.int .u64 (ji (jw b) pos (8*a2-pos)),.int .i64 (((8*a2-pos:Nat):Int)),.fn 122 [.ptr 2 .z 1 0,.ptr 1 .z 1 0]]),.one 3 [.int .i64 a2],.one 25 [.slice 3 .z 1 b.length cap],.ro .u8 b]):=by
 have hnext:=fun a h=>kkg b a cap h (by omega)
 refine kw 4 (by simp) (ju [] (kc kj kpR ?_))
 intro vb _ vw _ _ _ _ _ _ _ _ _ _ _ _ _ _ _ _ vnotB _ hw qb qc qw _ _ _ _ _ _ _ _ _ _ _ _ _ _ _ _ qnotB _;have hm:=kj;generalize Try.prog=P at *;generalize hacc:ji (jw b) pos (8*at'-pos)=acc;generalize hhave:((8*at'-pos:Nat):Int)=have0;generalize ha0:((at':Nat):Int)=a0;generalize hn0:((n:Nat):Int)=n0;generalize hlen:b.length=len at *;cbv;refine kG (α:=Int×Int×Int) [5,6,7,8,9,10,11,12,13,14,15,16,17,18,19,20,21,22,23,24,25,26,27,28,29,30,31,32,33,34,35,36,37,38,39,40,41,42,43,44] []
  (fun(x,k,a)=>[]) (fun(x,k,a)=>[(0,(.one 215 [.fn 121 [.ptr 1 .z 1 0,.ptr 2 .z 1 0],.int .u64 (x),.int .i64 (k),.fn 122 [.ptr 2 .z 1 0,.ptr 1 .z 1 0]])),(1,.one 3 [.int .i64 a])])
  (fun(x,k,a)=>∃i:Nat,pos≤8*i∧8*i≤pos+63∧i≤len∧x=ji (jw b) pos (8*i-pos)∧k=((8*i-pos:Nat):Int)∧a=i) (fun(x,k,a)=>len-a.toNat) hw hm ?_ ?_
 ·refine Cv.fold [5,6,7,8,9,10,11,12,13,14,15,16,17,18,19,20,21,22,23,24,25,26,27,28,29,30,31,32,33,34,35,36,37,38,39,40,41,42,43,44] 4 [] (by exact Nat.le_refl _) (by exact Nat.le_of_ble_eq_true rfl) (by rfl) (by cbv) ?_
  intro js;refine⟨(_,_,_),?_,js,rfl⟩
  exact⟨at',hp,hp2,ha,hacc.symm,hhave.symm,ha0.symm⟩
 ·rintro⟨x,k,a⟩ js ⟨i,hi1,hi2,hi3,hx,hk,hai⟩;cbv;split
  ·rename_i hlt;have hlt:8*i<pos+n:=by rw[qc,ko] at hlt;simp only[nc] at *;omega
   have hil:i<len:=by omega
   have hnext':=hnext i hil;have hbyte:=kar hby i;have hbb:=kgr b hby i (by omega);simp only[nc] at hnext' hai;rw[←hai] at hnext';generalize hy:b.getD i 0=y at *;generalize ha1:((i+1:Nat):Int)=a1 at *;have hw1:vw .u64 y=y:=by simp only[qw];exact wrap_u64 hbyte.1 (by have:=hbyte.2;omega)
   have hw2:vw .u64 k=k:=by simp only[nc] at *;simp only[qw];exact wrap_u64 (by omega) (by omega)
   have hk0:0≤vw .u64 k:=by rw[hw2];simp only[nc] at *;omega
   have hk1:vb .add .i64 k 8=((8*(i+1)-pos:Nat):Int):=by simp only[nc] at *;rw[qb,ku (by omega) (by omega)];omega
   have hval:vb .or .u64 x (vb .shl .u64 (vw .u64 y) (vw .u64 k))=ji (jw b) pos (8*(i+1)-pos):=by
    have hbd:=qh (jw b) (ka0 b) pos (8*i-pos);have hp56:=kch (show 8*i-pos≤56 by omega);have hpp:(0:Int)<2^(8*i-pos):=Int.pow_pos (by decide);have hkn:k.toNat=8*i-pos:=by simp only[nc] at *;omega
    have hyb:y*2^(8*i-pos)≤255*2^(8*i-pos):=Int.mul_le_mul_of_nonneg_right (by have:=hbyte.2;omega) (Int.le_of_lt hpp);have e:8*(i+1)-pos=(8*i-pos)+8:=by omega
    rw[hw1,hw2,qb,kaI rfl hbyte.1 (by show k≤((64:Nat):Int);simp only[nc] at *;omega) (by rw[hkn];show _<(2:Int)^64;omega),hkn,hx,e,kbm];have e2:pos+(8*i-pos)=8*i:=by omega
    rw[e2,hbb,kdE rfl _ hbd.1 hbd.2 hbyte.1 (by show _<(2:Int)^64;omega)]
   cbv;refine ka (ρ:=[(1,.z),(2,.z),(3,.z)]) hnext' ⟨by rfl,by rfl,by rfl,by cbv;exact⟨kb _,trivial⟩⟩ ?_
   rintro v H R js ⟨rfl,rfl,rfl⟩;have e4:vnotB true=false:=by simp only[qnotB];rfl
   cbv;rw[e4];cbv;refine⟨⟨hk0⟩,?_⟩
   refine Cv.fold [5,6,7,8,9,10,11,12,13,14,15,16,17,18,19,20,21,22,23,24,25,26,27,28,29,30,31,32,33,34,35,36,37,38,39,40,41,42,43,44] 4 [] (by exact Nat.le_refl _) (by exact Nat.le_of_ble_eq_true rfl) (by rfl) (by cbv) ?_
   intro js;refine⟨(_,_,_),?_,js,rfl⟩
   exact⟨⟨i+1,by omega,by omega,by omega,hval,hk1,ha1.symm⟩,by show len-a1.toNat<len-a.toNat;simp only[nc] at *;omega⟩
  ·rename_i hge;have hge:pos+n≤8*i:=by rw[qc,km] at hge;simp only[nc] at *;omega
   cbv;refine⟨i,hge,hi2,hi3,?_⟩
   rw[hx,hk,hai];rfl
set_option maxHeartbeats 4000000 in
theorem km3 (b:List Int) (pos at' cap n:Nat) (hby:∀x∈b,isByte x) (hl:b.length≤2^50) (hp:pos≤8*at') (hp2:8*at'≤pos+63) (ha:at'≤b.length) (hn:n≤56) (hen:8*b.length<pos+n) :
  Con Try.prog 123 [.ptr 0 .z 4 0,.int .i64 n] [(.one 215 [.fn 121 [.ptr 1 .z 1 0,.ptr 2 .z 1 0],.int .u64 (ji (jw b) pos (8*at'-pos)),.int .i64 (((8*at'-pos:Nat):Int)),.fn 122 [.ptr 2 .z 1 0,.ptr 1 .z 1 0]]),.one 3 [.int .i64 at'],.one 25 [.slice 3 .z 1 b.length cap],.ro .u8 b]
   (fun v H R=>v=.bool false∧R=[]∧H=[(.one 215 [.fn 121 [.ptr 1 .z 1 0,.ptr 2 .z 1 0],.int .u64 (ji (jw b) pos (8*b.length-pos)),.int .i64 (((8*b.length-pos:Nat):Int)),.fn 122 [.ptr 2 .z 1 0,.ptr 1 .z 1 0]]),.one 3 [.int .i64 b.length],.one 25 [.slice 3 .z 1 b.length cap],.ro .u8 b]):=by
 have hnext:=fun a h=>kkg b a cap h (by omega)
 have hend:=km2 b cap (by omega);refine kw 4 (by simp) (ju [] (kc kj kpR ?_))
 intro vb vc vw _ _ _ _ _ _ _ _ _ _ _ _ _ _ _ _ vnotB _ hw qb qc qw _ _ _ _ _ _ _ _ _ _ _ _ _ _ _ _ qnotB _;have hm:=kj;generalize Try.prog=P at *;generalize hacc:ji (jw b) pos (8*at'-pos)=acc;generalize hhave:((8*at'-pos:Nat):Int)=have0;generalize hacc2:ji (jw b) pos (8*b.length-pos)=acc2;generalize hhave2:((8*b.length-pos:Nat):Int)=have2;generalize ha0:((at':Nat):Int)=a0;generalize hn0:((n:Nat):Int)=n0;generalize hlI:((b.length:Nat):Int)=lI at *;generalize hlen:b.length=len at *;cbv;refine kG (α:=Int×Int×Int) [5,6,7,8,9,10,11,12,13,14,15,16,17,18,19,20,21,22,23,24,25,26,27,28,29,30,31,32,33,34,35,36,37,38,39,40,41,42,43,44] []
  (fun(x,k,a)=>[]) (fun(x,k,a)=>[(0,(.one 215 [.fn 121 [.ptr 1 .z 1 0,.ptr 2 .z 1 0],.int .u64 (x),.int .i64 (k),.fn 122 [.ptr 2 .z 1 0,.ptr 1 .z 1 0]])),(1,.one 3 [.int .i64 a])])
  (fun(x,k,a)=>∃i:Nat,pos≤8*i∧8*i≤pos+63∧i≤len∧x=ji (jw b) pos (8*i-pos)∧k=((8*i-pos:Nat):Int)∧a=i) (fun(x,k,a)=>len-a.toNat) hw hm ?_ ?_
 ·refine Cv.fold [5,6,7,8,9,10,11,12,13,14,15,16,17,18,19,20,21,22,23,24,25,26,27,28,29,30,31,32,33,34,35,36,37,38,39,40,41,42,43,44] 4 [] (by exact Nat.le_refl _) (by exact Nat.le_of_ble_eq_true rfl) (by rfl) (by cbv) ?_
  intro js;refine⟨(_,_,_),?_,js,rfl⟩
  exact⟨at',hp,hp2,ha,hacc.symm,hhave.symm,ha0.symm⟩
 ·rintro⟨x,k,a⟩ js ⟨i,hi1,hi2,hi3,hx,hk,hai⟩;have hc:vc .lss k n0=true:=by rw[qc,ko];simp only[nc] at *;omega
  cbv;rw[hc];by_cases hil:i<len
  ·have hnext':=hnext i hil;have hbyte:=kar hby i;have hbb:=kgr b hby i (by omega);simp only[nc] at hnext' hai;rw[←hai] at hnext';generalize hy:b.getD i 0=y at *;generalize ha1:((i+1:Nat):Int)=a1 at *;have hw1:vw .u64 y=y:=by simp only[qw];exact wrap_u64 hbyte.1 (by have:=hbyte.2;omega)
   have hw2:vw .u64 k=k:=by simp only[nc] at *;simp only[qw];exact wrap_u64 (by omega) (by omega)
   have hk0:0≤vw .u64 k:=by rw[hw2];simp only[nc] at *;omega
   have hk1:vb .add .i64 k 8=((8*(i+1)-pos:Nat):Int):=by simp only[nc] at *;rw[qb,ku (by omega) (by omega)];omega
   have hval:vb .or .u64 x (vb .shl .u64 (vw .u64 y) (vw .u64 k))=ji (jw b) pos (8*(i+1)-pos):=by
    have hbd:=qh (jw b) (ka0 b) pos (8*i-pos);have hp56:=kch (show 8*i-pos≤56 by omega);have hpp:(0:Int)<2^(8*i-pos):=Int.pow_pos (by decide);have hkn:k.toNat=8*i-pos:=by simp only[nc] at *;omega
    have hyb:y*2^(8*i-pos)≤255*2^(8*i-pos):=Int.mul_le_mul_of_nonneg_right (by have:=hbyte.2;omega) (Int.le_of_lt hpp);have e:8*(i+1)-pos=(8*i-pos)+8:=by omega
    rw[hw1,hw2,qb,kaI rfl hbyte.1 (by show k≤((64:Nat):Int);simp only[nc] at *;omega) (by rw[hkn];show _<(2:Int)^64;omega),hkn,hx,e,kbm];have e2:pos+(8*i-pos)=8*i:=by omega
    rw[e2,hbb,kdE rfl _ hbd.1 hbd.2 hbyte.1 (by show _<(2:Int)^64;omega)]
   cbv;refine ka (ρ:=[(1,.z),(2,.z),(3,.z)]) hnext' ⟨by rfl,by rfl,by rfl,by cbv;exact⟨kb _,trivial⟩⟩ ?_
   rintro v H R js ⟨rfl,rfl,rfl⟩;have e4:vnotB true=false:=by simp only[qnotB];rfl
   cbv;rw[e4];cbv;refine⟨⟨hk0⟩,?_⟩
   refine Cv.fold [5,6,7,8,9,10,11,12,13,14,15,16,17,18,19,20,21,22,23,24,25,26,27,28,29,30,31,32,33,34,35,36,37,38,39,40,41,42,43,44] 4 [] (by exact Nat.le_refl _) (by exact Nat.le_of_ble_eq_true rfl) (by rfl) (by cbv) ?_
   intro js;refine⟨(_,_,_),?_,js,rfl⟩
   exact⟨⟨i+1,by omega,by omega,by omega,hval,hk1,ha1.symm⟩,by show len-a1.toNat<len-a.toNat;simp only[nc] at *;omega⟩
  ·have hil:i=len:=by omega
   have e4:vnotB false=true:=by simp only[qnotB];rfl
   have hai2:a=lI:=by rw[hai,hil];exact hlI
   have hx2:x=acc2:=by rw[hx,hil,hacc2]
   have hk2:k=have2:=by rw[hk,hil];exact hhave2
   rw[hai2,hx2,hk2];cbv;refine ka (ρ:=[(1,.z),(2,.z),(3,.z)]) hend ⟨by rfl,by rfl,by rfl,by cbv;exact⟨kb _,trivial⟩⟩ ?_
   rintro v H R js ⟨rfl,rfl,rfl⟩;cbv;rw[e4];cbv
theorem kqg (b:List Int) (pos at' cap:Nat) (n:Int) (hn:¬(0≤n∧n≤56)) :
  Con Try.prog 100 [.ptr 0 .z 4 0,.int .i64 n] [(.one 215 [.fn 121 [.ptr 1 .z 1 0,.ptr 2 .z 1 0],.int .u64 (ji (jw b) pos (8*at'-pos)),.int .i64 (((8*at'-pos:Nat):Int)),.fn 122 [.ptr 2 .z 1 0,.ptr 1 .z 1 0]]),.one 3 [.int .i64 at'],.one 25 [.slice 3 .z 1 b.length cap],.ro .u8 b]
   (fun v H R=>v=.tup [.lit .u64 0,.lit .i64 2]∧R=[]∧H=[(.one 215 [.fn 121 [.ptr 1 .z 1 0,.ptr 2 .z 1 0],.int .u64 (ji (jw b) pos (8*at'-pos)),.int .i64 (((8*at'-pos:Nat):Int)),.fn 122 [.ptr 2 .z 1 0,.ptr 1 .z 1 0]]),.one 3 [.int .i64 at'],.one 25 [.slice 3 .z 1 b.length cap],.ro .u8 b]):=by
 refine kc kj kmS ?_
 intro _ vc _ _ _ _ _ _ _ _ _ _ _ _ _ _ _ _ _ _ _ _ _ qc _ _ _ _ _ _ _ _ _ _ _ _ _ _ _ _ _ _ _;generalize Try.prog=P at *;generalize hacc:ji (jw b) pos (8*at'-pos)=acc at *;generalize hhave:((8*at'-pos:Nat):Int)=have0 at *;generalize ha0:((at':Nat):Int)=a0 at *;generalize b.length=len at *;cbv;generalize h1:vc .lss n 0=z1;cases z1
 ·cbv;have h2:vc .gtr n 56=true:=by rw[qc,km] at h1;rw[qc,gtr_true];omega
  rw[h2];cbv
 ·cbv
theorem km4 (b:List Int) (pos at' cap n:Nat) (hby:∀x∈b,isByte x) (hl:b.length≤2^50) (hp:pos≤8*at') (hp2:8*at'≤pos+63) (ha:at'≤b.length) (hn:n≤56) (hen:8*b.length<pos+n) :
  Con Try.prog 100 [.ptr 0 .z 4 0,.int .i64 n] [(.one 215 [.fn 121 [.ptr 1 .z 1 0,.ptr 2 .z 1 0],.int .u64 (ji (jw b) pos (8*at'-pos)),.int .i64 (((8*at'-pos:Nat):Int)),.fn 122 [.ptr 2 .z 1 0,.ptr 1 .z 1 0]]),.one 3 [.int .i64 at'],.one 25 [.slice 3 .z 1 b.length cap],.ro .u8 b]
   (fun v H R=>v=.tup [.lit .u64 0,.lit .i64 10]∧R=[]∧H=[(.one 215 [.fn 121 [.ptr 1 .z 1 0,.ptr 2 .z 1 0],.int .u64 (ji (jw b) (pos) (8*b.length-(pos))),.int .i64 (((8*b.length-(pos):Nat):Int)),.fn 122 [.ptr 2 .z 1 0,.ptr 1 .z 1 0]]),.one 3 [.int .i64 b.length],.one 25 [.slice 3 .z 1 b.length cap],.ro .u8 b]):=by
 have hfill:=km3 b pos at' cap n hby hl hp hp2 ha hn hen;refine kc kj kmS ?_
 intro _ vc _ _ _ _ _ _ _ _ _ _ _ _ _ _ _ _ _ vnotB _ _ _ qc _ _ _ _ _ _ _ _ _ _ _ _ _ _ _ _ _ qnotB _;generalize Try.prog=P at *;generalize hacc2:ji (jw b) pos (8*b.length-pos)=acc2 at *;generalize hhave2:((8*b.length-pos:Nat):Int)=have2 at *;generalize hlI:((b.length:Nat):Int)=lI at *;generalize hacc:ji (jw b) pos (8*at'-pos)=acc at *;generalize hhave:((8*at'-pos:Nat):Int)=have0 at *;generalize ha0:((at':Nat):Int)=a0 at *;generalize hn0:((n:Nat):Int)=n0 at *;generalize b.length=len at *;cbv;have e1:vc .lss n0 0=false:=by rw[qc,km];simp only[nc] at *;omega
 have e2:vc .gtr n0 56=false:=by rw[qc,gtr_false];simp only[nc] at *;omega
 have e4:vnotB false=true:=by simp only[qnotB];rfl
 rw[e1];cbv;rw[e2];cbv;refine ka (ρ:=[(0,.z),(1,.z),(2,.z),(3,.z)]) hfill ⟨by rfl,by rfl,by rfl,by cbv;exact⟨kb _,trivial⟩⟩ ?_
 rintro v H R js ⟨rfl,rfl,rfl⟩;cbv;rw[e4];cbv
theorem krt (b:List Int) (pos at' cap n:Nat) (hby:∀x∈b,isByte x) (hl:b.length≤2^50) (hp:pos≤8*at') (hp2:8*at'≤pos+63) (ha:at'≤b.length) (hn:n≤56) (hen:pos+n≤8*b.length) :
  Con Try.prog 100 [.ptr 0 .z 4 0,.int .i64 n] [(.one 215 [.fn 121 [.ptr 1 .z 1 0,.ptr 2 .z 1 0],.int .u64 (ji (jw b) pos (8*at'-pos)),.int .i64 (((8*at'-pos:Nat):Int)),.fn 122 [.ptr 2 .z 1 0,.ptr 1 .z 1 0]]),.one 3 [.int .i64 at'],.one 25 [.slice 3 .z 1 b.length cap],.ro .u8 b]
   (fun v H R=>v=.tup [.int .u64 (ji (jw b) pos n),.lit .i64 0]∧R=[]∧∃a2:Nat,pos+n≤8*a2∧8*a2≤pos+n+63∧a2≤b.length∧H=[(.one 215 [.fn 121 [.ptr 1 .z 1 0,.ptr 2 .z 1 0],.int .u64 (ji (jw b) (pos+n) (8*a2-(pos+n))),.int .i64 (((8*a2-(pos+n):Nat):Int)),.fn 122 [.ptr 2 .z 1 0,.ptr 1 .z 1 0]]),.one 3 [.int .i64 a2],.one 25 [.slice 3 .z 1 b.length cap],.ro .u8 b]):=by
 have hfill:=kor b pos at' cap n hby hl hp hp2 ha hn hen;refine kc kj kmS ?_
 intro vb vc vw _ _ _ _ _ _ _ _ _ _ _ _ _ _ _ _ vnotB _ _ qb qc qw _ _ _ _ _ _ _ _ _ _ _ _ _ _ _ _ qnotB _;generalize Try.prog=P at *;generalize hacc:ji (jw b) pos (8*at'-pos)=acc at *;generalize hhave:((8*at'-pos:Nat):Int)=have0 at *;generalize ha0:((at':Nat):Int)=a0 at *;generalize hn0:((n:Nat):Int)=n0 at *;generalize hX:ji (jw b) pos n=X;generalize b.length=len at *;cbv;have e1:vc .lss n0 0=false:=by rw[qc,km];simp only[nc] at *;omega
 have e2:vc .gtr n0 56=false:=by rw[qc,gtr_false];simp only[nc] at *;omega
 have e4:vnotB true=false:=by simp only[qnotB];rfl
 have hwn:vw .u64 n0=n0:=by simp only[nc] at *;simp only[qw];exact wrap_u64 (by omega) (by omega)
 have hnn:0≤vw .u64 n0:=by rw[hwn];simp only[nc] at *;omega
 rw[e1];cbv;rw[e2];cbv;simp only[nc] at hfill;refine ka (ρ:=[(0,.z),(1,.z),(2,.z),(3,.z)]) hfill ⟨by rfl,by rfl,by rfl,by cbv;exact⟨kb _,trivial⟩⟩ ?_
 rintro v H R js ⟨rfl,rfl,a2,h1,h2,h3,rfl⟩;generalize hacc2:ji (jw b) pos (8*a2-pos)=acc2;generalize hhave2:((8*a2-pos:Nat):Int)=have2;generalize hai2:((a2:Nat):Int)=ai2;have hbm:=km1 (jw b) (ka0 b) pos n (8*a2-pos-n);have hbd:=qh (jw b) (ka0 b) pos (8*a2-pos);rw[show n+(8*a2-pos-n)=8*a2-pos by omega] at hbm;rw[hacc2,hX] at hbm;rw[hacc2] at hbd;have hlt64:acc2<2^64:=by
  have:(2:Int)^(8*a2-pos)≤2^64:=by exact_mod_cast Nat.pow_le_pow_right (by decide) (by omega)
  omega
 have hpn:=kch hn;have hp0:(0:Int)<2^n:=Int.pow_pos (by decide);have hn00:n0.toNat=n:=by simp only[nc] at *;omega
 have hx:vb .and .u64 acc2 (vb .sub .u64 (vb .shl .u64 1 (vw .u64 n0)) 1)=X:=by
  have e1:vb .shl .u64 1 n0=2^n:=by
   rw[qb,kaI rfl (by decide) (by show n0≤((64:Nat):Int);simp only[nc] at *;omega) (by rw[hn00];show _<(2:Int)^64;omega),hn00];omega
  have e2:vb .sub .u64 (2^n) 1=2^n-1:=by rw[qb];exact wrap_u64 (by omega) (by omega)
  rw[hwn,e1,e2,qb,jf (k:=.u64) rfl n (by show n≤64;omega) hbd.1 hlt64];exact hbm.1
 have hsh:vb .shr .u64 acc2 (vw .u64 n0)=ji (jw b) (pos+n) (8*a2-pos-n):=by
  rw[hwn,qb,jE (by show n0≤((64:Nat):Int);simp only[nc] at *;omega),hn00];exact hbm.2
 have hhs:vb .sub .i64 have2 n0=((8*a2-(pos+n):Nat):Int):=by
  simp only[nc] at *;rw[qb,kJ (by omega) (by omega)];omega
 cbv;rw[e4];cbv;refine⟨⟨hnn⟩,⟨hnn⟩,?_⟩
 rw[hx,hsh,hhs];refine⟨rfl,a2,h1,by omega,h3,?_⟩
 rw[show 8*a2-pos-n=8*a2-(pos+n) by omega,←hai2];rfl
def rbX (b:List Int) (pos:Nat) (n:Int):Int:=if 0≤n∧n≤56∧pos+n≤8*b.length then ji (jw b) pos n.toNat else 0
def rbE (b:List Int) (pos:Nat) (n:Int):Int:=if 0≤n∧n≤56 then(if pos+n≤8*b.length then 0 else 10) else 2
def rbP (b:List Int) (pos:Nat) (n:Int):Nat:=if 0≤n∧n≤56∧pos+n≤8*b.length then pos+n.toNat else pos
theorem klB (b:List Int) (pos at' cap:Nat) (n:Int) (hby:∀x∈b,isByte x) (hl:b.length≤2^50) (hp:pos≤8*at') (hp2:8*at'≤pos+63) (ha:at'≤b.length) :
  Con Try.prog 100 [.ptr 0 .z 4 0,.int .i64 n] [(.one 215 [.fn 121 [.ptr 1 .z 1 0,.ptr 2 .z 1 0],.int .u64 (ji (jw b) pos (8*at'-pos)),.int .i64 (((8*at'-pos:Nat):Int)),.fn 122 [.ptr 2 .z 1 0,.ptr 1 .z 1 0]]),.one 3 [.int .i64 at'],.one 25 [.slice 3 .z 1 b.length cap],.ro .u8 b]
   (fun v H R=>v=.tup [.int .u64 (rbX b pos n),.int .i64 (rbE b pos n)]∧R=[]∧∃a2:Nat,rbP b pos n≤8*a2∧8*a2≤rbP b pos n+63∧a2≤b.length∧H=[(.one 215 [.fn 121 [.ptr 1 .z 1 0,.ptr 2 .z 1 0],.int .u64 (ji (jw b) (rbP b pos n) (8*a2-(rbP b pos n))),.int .i64 (((8*a2-(rbP b pos n):Nat):Int)),.fn 122 [.ptr 2 .z 1 0,.ptr 1 .z 1 0]]),.one 3 [.int .i64 a2],.one 25 [.slice 3 .z 1 b.length cap],.ro .u8 b]):=by
 by_cases hn:0≤n∧n≤56
 ·obtain⟨m,rfl⟩:∃m:Nat,n=m:=⟨n.toNat,by omega⟩;by_cases hen:pos+m≤8*b.length
  ·have e1:rbX b pos m=ji (jw b) pos m:=by unfold rbX;rw[if_pos ⟨hn.1,hn.2,by omega⟩];rfl
   have e2:rbE b pos m=0:=by unfold rbE;rw[if_pos hn,if_pos (by omega)]
   have e3:rbP b pos m=pos+m:=by unfold rbP;rw[if_pos ⟨hn.1,hn.2,by omega⟩];rfl
   rw[e1,e2,e3];refine kf ((krt b pos at' cap m hby hl hp hp2 ha (by omega) hen).mono ?_)
   rintro v H R ⟨rfl,rfl,a2,h1,h2,h3,rfl⟩;exact⟨rfl,rfl,a2,h1,h2,h3,rfl⟩
  ·have e1:rbX b pos m=0:=by unfold rbX;rw[if_neg (by omega)]
   have e2:rbE b pos m=10:=by unfold rbE;rw[if_pos hn,if_neg (by omega)]
   have e3:rbP b pos m=pos:=by unfold rbP;rw[if_neg (by omega)]
   rw[e1,e2,e3];refine kf ((km4 b pos at' cap m hby hl hp hp2 ha (by omega) (by omega)).mono ?_)
   rintro v H R ⟨rfl,rfl,rfl⟩;exact⟨rfl,rfl,b.length,by omega,by omega,Nat.le_refl _,rfl⟩
 ·have e1:rbX b pos n=0:=by unfold rbX;rw[if_neg (by omega)]
  have e2:rbE b pos n=2:=by unfold rbE;rw[if_neg hn]
  have e3:rbP b pos n=pos:=by unfold rbP;rw[if_neg (by omega)]
  rw[e1,e2,e3];refine kf ((kqg b pos at' cap n hn).mono ?_)
  rintro v H R ⟨rfl,rfl,rfl⟩;exact⟨rfl,rfl,at',hp,hp2,ha,rfl⟩
theorem klC (b:List Int) (pos at' cap:Nat) (hl:b.length≤2^50) (hp:pos≤8*at') (ha:at'≤b.length) :
  Con Try.prog 101 [.ptr 0 .z 4 0] [(.one 215 [.fn 121 [.ptr 1 .z 1 0,.ptr 2 .z 1 0],.int .u64 (ji (jw b) pos (8*at'-pos)),.int .i64 (((8*at'-pos:Nat):Int)),.fn 122 [.ptr 2 .z 1 0,.ptr 1 .z 1 0]]),.one 3 [.int .i64 at'],.one 25 [.slice 3 .z 1 b.length cap],.ro .u8 b]
   (fun v H R=>v=.int .i64 (8*b.length-pos)∧R=[]∧H=[(.one 215 [.fn 121 [.ptr 1 .z 1 0,.ptr 2 .z 1 0],.int .u64 (ji (jw b) pos (8*at'-pos)),.int .i64 (((8*at'-pos:Nat):Int)),.fn 122 [.ptr 2 .z 1 0,.ptr 1 .z 1 0]]),.one 3 [.int .i64 at'],.one 25 [.slice 3 .z 1 b.length cap],.ro .u8 b]):=by
 have hleft:=klA b at' cap ha hl;refine kc kj kq4 ?_
 intro vb _ _ _ _ _ _ _ _ _ _ _ _ _ _ _ _ _ _ _ _ _ qb _ _ _ _ _ _ _ _ _ _ _ _ _ _ _ _ _ _ _ _;generalize Try.prog=P at *;generalize hr:8*((b.length:Int)-at')=r at *;generalize hacc:ji (jw b) pos (8*at'-pos)=acc at *;generalize hhave:((8*at'-pos:Nat):Int)=have0 at *;generalize ha0:((at':Nat):Int)=a0 at *;generalize hL:(8*(b.length:Int)-pos)=L;generalize hlen:b.length=len at *;have e1:vb .add .i64 have0 r=L:=by rw[qb,ku (by omega) (by omega)];omega
 cbv;refine ka (ρ:=[(1,.z),(2,.z),(3,.z)]) hleft ⟨by rfl,by rfl,by rfl,by cbv;exact⟨kb _,trivial⟩⟩ ?_
 rintro v H R js ⟨rfl,rfl,rfl⟩;cbv;rw[e1];exact⟨rfl,trivial⟩
theorem km5 (b:List Int) (cap:Nat) (hl:b.length≤140737488355328):Con Try.prog 99 [.slice 0 .z 1 b.length cap] [.ro .u8 b]
  (fun v H R=>v=.ptr 4 .z 4 0∧R=[1]∧∃c,H=[.ro .u8 b,.buf 5 .u8 b c,.one 25 [.slice 1 .z 1 b.length c],.one 3 [.int .i64 0],.one 215 [.fn 121 [.ptr 3 .z 1 0,.ptr 2 .z 1 0],.int .u64 0,.int .i64 0,.fn 122 [.ptr 2 .z 1 0,.ptr 3 .z 1 0]]]):=by
 refine kf (kc kj ksj ?_)
 intro _ _ _ _ _ vaddN _ _ _ _ _ _ _ _ vsub vonto _ _ _ _ _ _ _ _ _ _ _ qaddN _ _ _ _ _ _ qln _ qsub qonto _ _ _ _ _;generalize Try.prog=P at *;generalize hlen:b.length=len at *;have ha:vaddN 0 len=len:=by simp only[qaddN,Nat.zero_add]
 have hpay:vonto [] 0 (vsub b 0 len)=b:=by simp only[qonto,qsub];simp[←hlen]
 cbv;refine⟨⟨by rw[ha];simp only[qln];omega⟩,⟨Nat.zero_le _⟩,⟨Nat.zero_le _⟩,⟨by rw[ha];omega⟩,?_⟩
 intro c1 js1 hle;cbv;rw[ha,hpay];exact⟨c1,rfl⟩
def RS (b:List Int) (pos:Nat) (acc hv ai:Int):Prop:=∃at':Nat,pos≤8*at'∧8*at'≤pos+63∧at'≤b.length∧acc=ji (jw b) pos (8*at'-pos)∧hv=((8*at'-pos:Nat):Int)∧ai=at'
theorem RS.start (b:List Int):RS b 0 0 0 0:=⟨0,by omega,by omega,by omega,rfl,rfl,rfl⟩
theorem km6 (b:List Int) (pos cap:Nat) (n acc hv ai:Int) (hby:∀x∈b,isByte x) (hl:b.length≤2^50) (h:RS b pos acc hv ai) :
  Con Try.prog 100 [.ptr 0 .z 4 0,.int .i64 n] [(.one 215 [.fn 121 [.ptr 1 .z 1 0,.ptr 2 .z 1 0],.int .u64 (acc),.int .i64 (hv),.fn 122 [.ptr 2 .z 1 0,.ptr 1 .z 1 0]]),.one 3 [.int .i64 ai],.one 25 [.slice 3 .z 1 b.length cap],.ro .u8 b]
   (fun v H R=>v=.tup [.int .u64 (rbX b pos n),.int .i64 (rbE b pos n)]∧R=[]∧∃acc2 hv2 ai2,RS b (rbP b pos n) acc2 hv2 ai2∧H=[(.one 215 [.fn 121 [.ptr 1 .z 1 0,.ptr 2 .z 1 0],.int .u64 (acc2),.int .i64 (hv2),.fn 122 [.ptr 2 .z 1 0,.ptr 1 .z 1 0]]),.one 3 [.int .i64 ai2],.one 25 [.slice 3 .z 1 b.length cap],.ro .u8 b]):=by
 obtain⟨at',h1,h2,h3,rfl,rfl,rfl⟩:=h;refine(klB b pos at' cap n hby hl h1 h2 h3).mono ?_
 rintro v H R ⟨e1,e2,a2,e3,e4,e5,e6⟩;exact⟨e1,e2,_,_,_,⟨a2,e3,e4,e5,rfl,rfl,rfl⟩,e6⟩
theorem km7 (b:List Int) (pos cap:Nat) (acc hv ai:Int) (hl:b.length≤2^50) (h:RS b pos acc hv ai) :
  Con Try.prog 101 [.ptr 0 .z 4 0] [(.one 215 [.fn 121 [.ptr 1 .z 1 0,.ptr 2 .z 1 0],.int .u64 (acc),.int .i64 (hv),.fn 122 [.ptr 2 .z 1 0,.ptr 1 .z 1 0]]),.one 3 [.int .i64 ai],.one 25 [.slice 3 .z 1 b.length cap],.ro .u8 b]
   (fun v H R=>v=.int .i64 (8*b.length-pos)∧R=[]∧H=[(.one 215 [.fn 121 [.ptr 1 .z 1 0,.ptr 2 .z 1 0],.int .u64 (acc),.int .i64 (hv),.fn 122 [.ptr 2 .z 1 0,.ptr 1 .z 1 0]]),.one 3 [.int .i64 ai],.one 25 [.slice 3 .z 1 b.length cap],.ro .u8 b]):=by
 obtain⟨at',h1,h2,h3,rfl,rfl,rfl⟩:=h;exact klC b pos at' cap hl h1 h3
def kU (c:Int):Int:=if c<0 then 1 else c
def jP (c:Int):Prop := -32768≤c∧c≤32767
def qT (l:List Int):Int:=(l.map kU).sum
def jL (l:List Int) (log:Int):Prop:=5≤log∧log≤12∧1≤l.length∧l.length≤256∧l.getD (l.length-1) 0≠0∧(∀c∈l,-1≤c)∧qT l=2^log.toNat
instance (l:List Int) (log:Int):Decidable (jL l log):=by unfold jL;infer_instance
theorem kdO (l:List Int) (c:Int):qT (l++[c])=qT l+kU c:=by simp[qT]
theorem kdP {c:Int} (h:jP c):0≤kU c∧kU c≤32767:=by unfold kU jP at *;split<;>omega
theorem kos {l:List Int} (h:∀c∈l,jP c):0≤qT l∧qT l≤32767*l.length:=by
 induction l with
 |nil=>simp[qT]
 |cons c l ih=>
  have h1:=kdP (h c (by simp));have h2:=ih (fun x hx=>h x (by simp[hx]));simp only[qT,List.map_cons,List.sum_cons,List.length_cons] at *;omega
theorem kdQ (c:Int) (hc:jP c):Con Try.prog 94 [.int .i16 c] [] (fun v H R=>v=.int .i64 (kU c)∧H=[]∧R=[]):=by
 refine kf (kc kj kq3 ?_)
 intro _ _ vw _ _ _ _ _ _ _ _ _ _ _ _ _ _ _ _ _ _ _ _ qc qw _ _ _ _ _ _ _ _ _ _ _ _ _ _ _ _ _ _;generalize Try.prog=P at *;have hp:kU c=if c<0 then 1 else c:=rfl
 generalize kU c=p at *;cbv;split
 ·rename_i h;rw[qc,ko] at h;cbv;rw[hp,if_pos h];exact⟨rfl,trivial⟩
 ·rename_i h;rw[qc,km] at h;have e:vw .i64 c=c:=by unfold jP at hc;simp only[qw];exact wrap_i64 (by omega) (by omega)
  cbv;rw[e,hp,if_neg h];exact⟨rfl,trivial⟩
theorem kg8 {x:Int} (h0:0≤x) (h1:x≤12):bV .shl .i64 1 x=2^x.toNat:=by
 obtain⟨n,rfl⟩:∃n:Nat,x=n:=⟨x.toNat,by omega⟩;have hn:n≤12:=by omega
 have:∀n:Fin 13,bV .shl .i64 1 ((n.1:Nat):Int)=2^((n.1:Nat):Int).toNat:=by decide
 exact this ⟨n,by omega⟩
set_option maxHeartbeats 2000000 in
theorem kgs (l:List Int) (log:Int) (cap:Nat) (hl:∀c∈l,jP c) (hlog : -9223372036854775808≤log∧log≤9223372036854775807) :
  Con Try.prog 93 [.slice 0 .z 1 l.length cap,.int .i64 log] [.ro .i16 l] (fun v H R=>v=.bool (decide (jL l log))∧H=[.ro .i16 l]∧R=[]):=by
 have hparts:=fun c h=>kdQ c h
 refine kf (kc kj ksh ?_)
 intro vb vc vw vtoN vofN vaddN _ _ _ _ vgd _ vln _ _ _ _ _ _ _ _ hw qb qc qw qtoN qofN qaddN _ _ _ _ qgd _ qln _ _ _ _ _ _ _ _;have hm:=kj;generalize Try.prog=P at *;have hR:decide (jL l log)=true↔(5≤log∧log≤12∧1≤l.length∧l.length≤256∧l.getD (l.length-1) 0≠0∧(∀c∈l,-1≤c)∧qT l=2^log.toNat):=by
  rw[decide_eq_true_iff];exact Iff.rfl
 generalize decide (jL l log)=rb at *;have hRf:∀p:Prop,(rb=true→False)→rb=false:=fun _ h=>by cases rb with|false=>rfl|true=>exact(h rfl).elim
 have hl16:=hl;have hsum:∀i,0≤qT (l.take i)∧qT (l.take i)≤32767*i:=by
  intro i;have h1:=kos (l:=l.take i) (fun c hc=>hl c (List.mem_of_mem_take hc));have h2:(l.take i).length≤i:=by rw[List.length_take];omega
  omega
 generalize hn:l.length=n at *;cbv;generalize h1:vc .lss log 5=z1;cases z1
 rotate_left
 ·rw[qc,ko] at h1;cbv;rw[hRf True (fun h=>by have:=(hR.1 h).1;omega)];exact⟨rfl,trivial⟩
 rw[qc,km] at h1;cbv;generalize h2:vc .gtr log 12=z2;cases z2
 rotate_left
 ·rw[qc,gtr_true] at h2;cbv;rw[hRf True (fun h=>by have:=(hR.1 h).2.1;omega)];exact⟨rfl,trivial⟩
 rw[qc,gtr_false] at h2;cbv;generalize h3:vc .eql (vofN n) 0=z3;cases z3
 rotate_left
 ·rw[qc,qofN,kt] at h3;cbv;rw[hRf True (fun h=>by have:=(hR.1 h).2.2.1;simp only[nc] at *;omega)];exact⟨rfl,trivial⟩
 rw[qc,qofN,kh] at h3;cbv;generalize h4:vc .gtr (vofN n) 256=z4;cases z4
 rotate_left
 ·rw[qc,qofN,gtr_true] at h4;cbv;rw[hRf True (fun h=>by have:=(hR.1 h).2.2.2.1;simp only[nc] at *;omega)];exact⟨rfl,trivial⟩
 rw[qc,qofN,gtr_false] at h4;have hn1:vb .sub .i64 (vofN n) 1=((n-1:Nat):Int):=by simp only[nc] at *;simp only[qofN];rw[qb,kJ (by omega) (by omega)];omega
 have hin1:0≤vb .sub .i64 (vofN n) 1∧vb .sub .i64 (vofN n) 1<n:=by rw[hn1];simp only[nc] at *;omega
 have hto1:vtoN (vb .sub .i64 (vofN n) 1)=n-1:=by rw[hn1];simp only[qtoN];omega
 have hlt1:n-1<vln l:=by simp only[qln];simp only[nc] at *;omega
 have hlt1':vaddN 0 (n-1)<vln l:=by simp only[qaddN,Nat.zero_add];exact hlt1
 have hld:vgd l (n-1)=l.getD (n-1) 0:=by simp only[qgd]
 cbv;rw[hto1];refine⟨⟨hin1⟩,⟨hlt1'⟩,⟨hlt1⟩,?_⟩
 generalize h5:vc .eql (vgd l (n-1)) 0=z5;cases z5
 rotate_left
 ·rw[qc,kt,hld] at h5;cbv;rw[hRf True (fun h=>(hR.1 h).2.2.2.2.1 h5)];exact⟨rfl,trivial⟩
 rw[qc,kh,hld] at h5;cbv;refine kG (α:=Int×Int) [7,36,37,38,39,40,41,42,43,44,45] []
  (fun(k,m)=>[(35,.int .i64 k),(5,.int .i64 m)]) (fun(k,m)=>[])
  (fun(k,m)=>∃i:Nat,k=i∧i≤n∧m=qT (l.take i)∧∀c∈l.take i,-1≤c) (fun(k,_)=>n-k.toNat) hw hm ?_ ?_
 ·refine Cv.genAt [35,5] [] (Cv.fold [7,36,37,38,39,40,41,42,43,44,45] 1 [] (by exact Nat.le_refl _) (by exact Nat.le_of_ble_eq_true rfl) (by rfl) (by cbv) ?_)
  intro js;refine⟨(_,_),?_,js,rfl⟩
  exact⟨0,rfl,by omega,by simp[qT],by simp⟩
 ·rintro⟨k,m⟩ js ⟨i,hk,hi,hs,hall⟩;have hsi:=hsum i;cbv;split
  ·rename_i hlt;have hlt:i<n:=by rw[qc,ko] at hlt;simp only[qofN] at hlt;simp only[nc] at *;omega
   have hti:vtoN k=i:=by simp only[qtoN];simp only[nc] at *;omega
   have hin:0≤k∧k<(n:Int):=by simp only[nc] at *;omega
   have hlt2:i<vln l:=by simp only[qln];omega
   have hlt3:vaddN 0 i<vln l:=by simp only[qaddN,Nat.zero_add];exact hlt2
   have hil:i<l.length:=by omega
   have hgd:vgd l i=l.getD i 0:=by simp only[qgd]
   have hmem:l.getD i 0∈l:=by rw[List.getD_eq_getElem?_getD,List.getElem?_eq_getElem hil];exact List.getElem_mem hil
   have hc16:=hl16 _ hmem;have hpl:=kdP hc16;have hsn:qT (l.take (i+1))=m+kU (l.getD i 0):=by rw[kaZ hil,kdO,←hs]
   have hpc:=hparts _ hc16;have hk1:vb .add .i64 k 1=((i+1:Nat):Int):=by simp only[nc] at *;rw[qb,ku (by omega) (by omega)];omega
   have hmu:n-(vb .add .i64 k 1).toNat<n-k.toNat:=by rw[hk1,hk];simp only[nc] at *;omega
   rw[←hgd] at hpc hsn;have hadd:vb .add .i64 m (kU (vgd l i))=m+kU (vgd l i):=by simp only[nc] at *;rw[hgd];rw[qb,ku (by omega) (by omega)]
   generalize kU (vgd l i)=pc at hpc hsn hadd;cbv;rw[hti];cbv;refine⟨⟨hin⟩,⟨hlt3⟩,⟨hlt2⟩,?_⟩
   generalize hcd:vgd l i=cd at *;split
   ·rename_i hlo;rw[qc,ko] at hlo;cbv;rw[hRf True (fun h=>by have:=(hR.1 h).2.2.2.2.2.1 _ hmem;rw[←hgd] at this;omega)];exact⟨rfl,trivial⟩
   ·rename_i hlo;rw[qc,km] at hlo;cbv;refine ka (ρ:=[]) hpc ⟨by rfl,by rfl,by rfl,by cbv⟩ ?_
    rintro v H R js ⟨rfl,rfl,rfl⟩;cbv;rw[hadd];refine Cv.fold [7,36,37,38,39,40,41,42,43,44,45] 1 [] (by exact Nat.le_refl _) (by exact Nat.le_of_ble_eq_true rfl) (by rfl) (by cbv) ?_
    intro js;refine⟨(_,_),?_,js,rfl⟩
    refine⟨⟨i+1,hk1,hlt,hsn.symm,fun c hc=>?_⟩,hmu⟩
    rw[kaZ hil] at hc;rcases List.mem_append.1 hc with hc|hc
    ·exact hall c hc
    ·rw[List.mem_singleton.1 hc,←hgd];omega
  ·rename_i hge;have hin:i=n:=by rw[qc,km] at hge;simp only[qofN] at hge;simp only[nc] at *;omega
   have hl0:l.take i=l:=List.take_of_length_le (by omega);rw[hl0] at hs hall;have hlg:vw .u64 log=log:=by simp only[qw];exact wrap_u64 (by omega) (by omega)
   have hnn:0≤vw .u64 log:=by rw[hlg];omega
   have hsh:vb .shl .i64 1 (vw .u64 log)=2^log.toNat:=by
    rw[hlg,qb,kg8 (by omega) (by omega)]
   have hfin:vc .eql m (vb .shl .i64 1 (vw .u64 log))=rb:=by
    rw[hsh];cases hrb:rb
    ·rw[qc,kh];intro he;have:=hR.2 ⟨by omega,by omega,by simp only[nc] at *;omega,by simp only[nc] at *;omega,h5,hall,by rw[←hs];exact he⟩;rw[hrb] at this;cases this
    ·rw[qc,kt];have:=(hR.1 hrb).2.2.2.2.2.2;rw[←hs] at this;exact this
   cbv;rw[hfin];exact⟨⟨hnn⟩,rfl,trivial⟩
def kW (x:Int):Int:=if x≤0 then 0 else(Nat.log2 x.toNat:Int)+1
theorem kkh {x:Int} {k:Nat} (h0:2^k≤x) (h1:x<2^(k+1)):kW x=k+1:=by
 have hp:(0:Int)<2^k:=Int.pow_pos (by omega);unfold kW;rw[if_neg (by omega)];obtain⟨n,rfl⟩:∃n:Nat,x=n:=⟨x.toNat,by omega⟩;have a:2^k≤n:=by exact_mod_cast h0
 have b:n<2^(k+1):=by exact_mod_cast h1
 have hn:n≠0:=by have:0<2^k:=Nat.pow_pos (by omega);omega
 have c1:n.log2<k+1:=(Nat.log2_lt hn).2 b;have c2:k≤n.log2:=(Nat.le_log2 hn).2 a;simp only[Int.toNat_natCast];omega
theorem qE {x:Int} (h:0<x):∃k:Nat,kW x=k+1∧2^k≤x∧x<2^(k+1):=by
 obtain⟨n,rfl⟩:∃n:Nat,x=n:=⟨x.toNat,by omega⟩;have hn:n≠0:=by omega
 refine⟨n.log2,?_,?_,?_⟩
 ·unfold kW;rw[if_neg (by omega)];simp
 ·exact_mod_cast (Nat.le_log2 hn).1 (Nat.le_refl _)
 ·exact_mod_cast (Nat.log2_lt hn).1 (Nat.lt_succ_self _)
theorem qk {x:Int} (h:0<x):kW x=kW (x / 2)+1:=by
 obtain⟨k,h1,h2,h3⟩:=qE h;cases k with
 |zero=>
  have:x=1:=by omega
  subst this;rfl
 |succ k=>
  have e:kW (x / 2)=k+1:=kkh (by rw[Int.pow_succ] at h2;omega) (by rw[Int.pow_succ] at h3;omega);rw[h1,e];push_cast;omega
theorem kio {x:Int} (h:x≤0):kW x=0:=by unfold kW;rw[if_pos h]
theorem kbn {x:Int} {n:Nat} (h0:0≤x) (h:x<2^n):0≤kW x∧kW x≤n:=by
 rcases Int.lt_or_le 0 x with hx|hx
 ·obtain⟨k,h1,h2,h3⟩:=qE hx;have:k<n:=by
   apply Classical.byContradiction
   intro hk;have:(2:Int)^n≤2^k:=by exact_mod_cast Nat.pow_le_pow_right (by omega:0<2) (by omega:n≤k)
   omega
  omega
 ·rw[kio hx];omega
theorem kg9 {x:Int} (h0:0≤x) (h:x<65536):0≤kW x∧kW x≤16:=kbn (n:=16) h0 h
theorem km8 {x:Int} (h0:0≤x) (h:x<256):0≤kW x∧kW x≤8:=kbn (n:=8) h0 h
set_option maxRecDepth 100000 in
theorem kej (n:Fin 256):IntKind.i64.wrap (((UInt8.ofNat (lenTab.getD n.val 0).toNat).toNat:Nat):Int)=kW (n.val:Int):=by
 revert n
 decide +kernel
theorem kfu {x:Int} (h:256≤x):kW x=8+kW (x / 256):=by
 have e:x / 256=x / 2 / 2 / 2 / 2 / 2 / 2 / 2 / 2:=by omega
 rw[e,qk (x:=x) (by omega),qk (x:=x / 2) (by omega),qk (x:=x / 2 / 2) (by omega),qk (x:=x / 2 / 2 / 2) (by omega),qk (x:=x / 2 / 2 / 2 / 2) (by omega),
  qk (x:=x / 2 / 2 / 2 / 2 / 2) (by omega),qk (x:=x / 2 / 2 / 2 / 2 / 2 / 2) (by omega),qk (x:=x / 2 / 2 / 2 / 2 / 2 / 2 / 2) (by omega)]
 omega
set_option maxRecDepth 100000 in
theorem klD (x:Int) (hx:0≤x∧x<65536):Con Try.prog 106 [.int .u64 x] [] (fun v H R=>v=.int .i64 (kW x)∧H=[]∧R=[]):=by
 refine kf (kc kj kpP ?_)
 intro vb vc vw vtoN _ _ _ _ _ _ vgd _ vln _ _ _ _ _ vbyteV _ _ _ qb qc qw qtoN _ _ _ _ _ _ qgd _ qln _ _ _ _ _ qbyteV _ _;have hm:=kj;generalize Try.prog=P at *;have hl:lenTab.length=256:=by rfl
 have key:∀y:Int,0≤y→y<256→vw .i64 (vbyteV (vgd lenTab (vtoN y)))=kW y:=by
  intro y h0 h1;obtain⟨n,rfl⟩:∃n:Nat,y=n:=⟨y.toNat,by omega⟩;rw[qw,qbyteV,qgd,qtoN];exact kej ⟨n,by omega⟩
 have hb256:=@kfu x;have hbr:=@km8 (x / 256) (by omega) (by omega);have hbx:=@kg9 x (by omega) (by omega);have e1:kqd=(.seq (.ops [⟨(some 2),.mv (.k (.lit .i64 0)),none,[]⟩])
  (.seq (.seq (.ops [⟨(some 3),.mv (.t 0),none,[]⟩,
   ⟨(some 4),.cmp .geq (.t 3) (.k (.lit .u64 4294967296)),none,[]⟩])
  (.cond (.t 4) (.seq (.ops [⟨(some 5),.mv (.t 0),none,[]⟩,
   ⟨(some 6),.bin .shr .u64 (.t 5) (.k (.lit .u64 32)),none,[]⟩,
   ⟨(some 0),.mv (.t 6),none,[]⟩])
  (.ops [⟨(some 2),.mv (.k (.lit .i64 32)),none,[]⟩])) (.skip)))
  (.seq (.seq (.ops [⟨(some 7),.mv (.t 0),none,[]⟩,
   ⟨(some 8),.cmp .geq (.t 7) (.k (.lit .u64 65536)),none,[]⟩])
  (.cond (.t 8) (.seq (.ops [⟨(some 9),.mv (.t 0),none,[]⟩,
   ⟨(some 10),.bin .shr .u64 (.t 9) (.k (.lit .u64 16)),none,[]⟩,
   ⟨(some 0),.mv (.t 10),none,[]⟩])
  (.ops [⟨(some 11),.mv (.t 2),none,[]⟩,
   ⟨(some 12),.bin .add .i64 (.t 11) (.k (.lit .i64 16)),none,[]⟩,
   ⟨(some 2),.mv (.t 12),none,[]⟩])) (.skip)))
  (.seq (.seq (.ops [⟨(some 13),.mv (.t 0),none,[]⟩,
   ⟨(some 14),.cmp .geq (.t 13) (.k (.lit .u64 256)),none,[]⟩])
  (.cond (.t 14) (.seq (.ops [⟨(some 15),.mv (.t 0),none,[]⟩,
   ⟨(some 16),.bin .shr .u64 (.t 15) (.k (.lit .u64 8)),none,[]⟩,
   ⟨(some 0),.mv (.t 16),none,[]⟩])
  (.ops [⟨(some 17),.mv (.t 2),none,[]⟩,
   ⟨(some 18),.bin .add .i64 (.t 17) (.k (.lit .i64 8)),none,[]⟩,
   ⟨(some 2),.mv (.t 18),none,[]⟩])) (.skip)))
  (.seq (.ops [⟨(some 19),.mv (.t 2),none,[]⟩,
   ⟨(some 20),.mv (.t 0),none,[]⟩,
   ⟨(some 21),.conv .u8 (.t 20),none,[]⟩,
   ⟨(some 22),.idxS (.k (.str lenTab)) (.t 21),none,[]⟩,
   ⟨(some 23),.conv .i64 (.t 22),none,[]⟩,
   ⟨(some 24),.bin .add .i64 (.t 19) (.t 23),none,[]⟩,
   ⟨(some 2),.mv (.t 24),none,[]⟩])
  (.ret)))))):=rfl
 rw[e1];have hll:vln lenTab=256:=by rw[qln];exact hl
 generalize lenTab=T at *;have d1:vc .geq x 4294967296=false:=by rw[qc,kZ];omega
 have d2:vc .geq x 65536=false:=by rw[qc,kZ];omega
 generalize hbl:kW x=bl at *;generalize hbl2:kW (x / 256)=bl2 at *;cbv;rw[d1];cbv;rw[d2];cbv;generalize d3:vc .geq x 256=z;cases z
 ·rw[qc,kZ] at d3;have w1:vw .u8 x=x:=by rw[qw];exact wrap_u8 (by omega) (by omega)
  have hk:=key x (by omega) (by omega);cbv;rw[w1,hk,hbl];refine⟨⟨?_⟩,?_,trivial⟩
  ·rw[hll];omega
  ·congr 1
   rw[qb,ku (by omega) (by omega)];omega
 ·rw[qc,jm] at d3;have s1:vb .shr .u64 x 8=x / 256:=by rw[qb];show x.fdiv (2^8)=_;rw[Int.fdiv_eq_ediv_of_nonneg _ (by omega)];rfl
  have w1:vw .u8 (x / 256)=x / 256:=by rw[qw];exact wrap_u8 (by omega) (by omega)
  have hk:=key (x / 256) (by omega) (by omega);have:=hb256 (by omega);cbv;rw[s1,w1,hk,hbl2];refine⟨⟨?_⟩,?_,trivial⟩
  ·rw[hll];omega
  ·congr 1
   rw[qb,ku (by omega) (by omega)];omega
theorem kex (x:Int) (hx:0≤x∧x<65536):Con Try.prog 78 [.int .u64 x] [] (fun v H R=>v=.int .i64 (kW x)∧H=[]∧R=[]):=by
 have hc:=klD x hx;refine kf (kc kj kq2 ?_)
 intro _ _ _ _ _ _ _ _ _ _ _ _ _ _ _ _ _ _ _ _ _ _ _ _ _ _ _ _ _ _ _ _ _ _ _ _ _ _ _ _ _ _ _;have hm:=kj;generalize Try.prog=P at *;generalize kW x=bl at *;cbv;refine ka (ρ:=[]) hc ⟨by rfl,by rfl,by rfl,by cbv⟩ ?_
 rintro v H R js ⟨rfl,rfl,rfl⟩;cbv
def WS (bs l:List Int) (n:Nat) (m:Int):Prop:=(∀b∈bs,kin b)∧l=pack bs∧n=l.length∧m=bs.length
theorem WS.nil:WS [] [] 0 0:=⟨by simp,(show pack []=[] by decide).symm,rfl,rfl⟩
theorem kcv {c:Int} (h : -1≤c):0≤kU c:=by unfold kU;split<;>omega
theorem kez {log:Int} (h:5≤log∧log≤12):(32:Int)≤2^log.toNat∧(2:Int)^log.toNat≤4096:=by
 obtain⟨n,rfl⟩:∃n:Nat,log=n:=⟨log.toNat,by omega⟩;have:n=5∨n=6∨n=7∨n=8∨n=9∨n=10∨n=11∨n=12:=by omega
 rcases this with rfl|rfl|rfl|rfl|rfl|rfl|rfl|rfl<;>decide
theorem kac {l:List Int} (h:∀c∈l,-1≤c) (i:Nat):0≤qT (l.take i)∧qT (l.take i)≤qT l:=by
 induction l generalizing i with
 |nil=>simp[qT]
 | cons c l ih=>
  have hc:=kcv (h c (by simp));have h2:=ih (fun x hx=>h x (by simp[hx]));cases i with
  |zero=>
   have:=h2 l.length;simp only[qT,List.take_zero,List.map_nil,List.sum_nil,List.map_cons,List.sum_cons,List.take_length] at *;omega
  |succ i=>
   have:=h2 i;simp only[qT,List.take_succ_cons,List.map_cons,List.sum_cons] at *;omega
theorem kdR {x:Int} (h0:0≤x) (h1:x≤62):bV .shl .i64 1 x=2^x.toNat:=by
 obtain⟨n,rfl⟩:∃n:Nat,x=n:=⟨x.toNat,by omega⟩;have hn:n≤62:=by omega
 show IntKind.i64.wrap (1*2^(min ((n:Int).toNat) IntKind.i64.bits))=2^((n:Int).toNat)
 have e:min ((n:Int).toNat) IntKind.i64.bits=n:=by simp[IntKind.bits];omega
 have hp:(2:Int)^n≤2^62:=by exact_mod_cast Nat.pow_le_pow_right (by omega:0<2) hn
 have hp0:(0:Int)<2^n:=Int.pow_pos (by omega);rw[e,Int.one_mul,Int.toNat_natCast];exact wrap_i64 (by omega) (by omega)
def stepT (size a:Int):Int:=(a+size / 2+size / 8+3) % size
def qv (size high:Int):Nat→Int→Int
 |0,a=>a
 |n+1,a=>if a<high then a else qv size high n (stepT size a)
def km9 (size high a:Int):Int:=qv size high 5000 (stepT size a)
def kad (size high:Int):Nat→Int
 |0=>0
 |n+1=>km9 size high (kad size high n)
def kas (size:Int):Nat→Int→Int
 |0,a=>a
 |n+1,a=>kas size n (stepT size a)
theorem kip {size:Int} (h:0<size):∀(n:Nat) (a:Int),0≤a→a<size→kas size n a=(a+n*(size / 2+size / 8+3)) % size
 |0,a,h0,h1=>by simp only[kas];rw[show a+((0:Nat):Int)*(size / 2+size / 8+3)=a by simp];exact(Int.emod_eq_of_lt h0 h1).symm
 |n+1,a,h0,h1=>by
  have hs:0≤stepT size a∧stepT size a<size:=⟨Int.emod_nonneg _ (by omega),Int.emod_lt_of_pos _ h⟩;rw[kas,kip h n _ hs.1 hs.2];unfold stepT;rw[Int.emod_add_emod];congr 1
  push_cast
  rw[Int.add_mul];omega
theorem kqh {size:Int} (hs:size=32∨size=64∨size=128∨size=256∨size=512∨size=1024∨size=2048∨size=4096) {a:Int} (h0:0≤a) (h1:a<size):∃m:Nat,m≤4096∧kas size m a=0:=by
 have key:∀inv:Int,(inv*(size / 2+size / 8+3)) % size=1→0<size→size≤4096→∃m:Nat,m≤4096∧kas size m a=0:=by
  intro inv hinv hp hle;refine⟨(((size-a)*inv) % size).toNat,?_,?_⟩
  ·have:=Int.emod_lt_of_pos ((size-a)*inv) hp;omega
  ·rw[kip hp _ _ h0 h1,Int.toNat_of_nonneg (Int.emod_nonneg _ (by omega))];have e:((size-a)*inv % size*(size / 2+size / 8+3)) % size=(size-a) % size:=by
    rw[Int.mul_emod,Int.emod_emod_of_dvd _ (Int.dvd_refl _),←Int.mul_emod,Int.mul_assoc,Int.mul_emod,hinv,Int.mul_one,Int.emod_emod_of_dvd _ (Int.dvd_refl _)]
   rw[Int.add_emod,e,Int.add_emod_emod,Int.emod_add_emod];rw[show a+(size-a)=size by omega,Int.emod_self]
 rcases hs with rfl|rfl|rfl|rfl|rfl|rfl|rfl|rfl
 ·exact key 7 (by decide) (by decide) (by decide)
 ·exact key 3 (by decide) (by decide) (by decide)
 ·exact key 91 (by decide) (by decide) (by decide)
 ·exact key 11 (by decide) (by decide) (by decide)
 ·exact key 363 (by decide) (by decide) (by decide)
 ·exact key 43 (by decide) (by decide) (by decide)
 ·exact key 1451 (by decide) (by decide) (by decide)
 ·exact key 171 (by decide) (by decide) (by decide)
theorem kat {size:Int} (h:0<size) (a:Int):0≤stepT size a∧stepT size a<size:=⟨Int.emod_nonneg _ (by omega),Int.emod_lt_of_pos _ h⟩
theorem kek {size high:Int} (h:0<size):∀(n:Nat) (a:Int),0≤a→a<size→0≤qv size high n a∧qv size high n a<size
 |0,a,h0,h1=>⟨h0,h1⟩
 |n+1,a,h0,h1=>by
  simp only[qv];split
  ·exact⟨h0,h1⟩
  ·exact kek h n _ (kat h a).1 (kat h a).2
theorem kiq {size high:Int} (h:0<high):∀(n m:Nat) (a:Int),kas size m a=0→m≤n→qv size high n a<high
 |0,m,a,hm,hmn=>by
  have:m=0:=by omega
  subst this;simp only[kas] at hm;simp only[qv];omega
 | n+1,m,a,hm,hmn=>by
  simp only[qv];split
  ·assumption
  ·rename_i ha;cases m with
   |zero=>simp only[kas] at hm;omega
   |succ m=>exact kiq h n m _ hm (by omega)
theorem kjw {size high a:Int} {n m:Nat} (h:0<high) (ha:¬a<high) (hm:kas size m a=0) (hmn:m≤n):∃n' m',n=n'+1∧m=m'+1∧qv size high n a=qv size high n' (stepT size a)∧kas size m' (stepT size a)=0:=by
 cases m with
 |zero=>simp only[kas] at hm;omega
 |succ m=>
  cases n with
  |zero=>omega
  |succ n=>exact⟨n,m,rfl,rfl,by simp only[qv];rw[if_neg ha],hm⟩
theorem kjx {size high a:Int} {n:Nat} (ha:a<high):qv size high n a=a:=by
 cases n with
 |zero=>rfl
 |succ n=>simp only[qv];rw[if_pos ha]
theorem kki {log:Int} (h:5≤log∧log≤12):∃size:Int,2^log.toNat=size∧(size=32∨size=64∨size=128∨size=256∨size=512∨size=1024∨size=2048∨size=4096):=by
 obtain⟨n,rfl⟩:∃n:Nat,log=n:=⟨log.toNat,by omega⟩;have:n=5∨n=6∨n=7∨n=8∨n=9∨n=10∨n=11∨n=12:=by omega
 refine⟨_,rfl,?_⟩
 rcases this with rfl|rfl|rfl|rfl|rfl|rfl|rfl|rfl<;>decide
def jK (l:List Int):Nat→Int
 |0=>0
 |i+1=>jK l i+(if l.getD i 0<0 then 1 else 0)
def kbo (l:List Int) (size:Int):Nat→Nat→Int
 |0=>fun _=>0
 |i+1=>if l.getD i 0<0 then qm (kbo l size i) (size-jK l (i+1)).toNat i else kbo l size i
def kau (l:List Int):Nat→List Int
 |0=>[]
 |i+1=>kau l i++List.replicate (l.getD i 0).toNat (i:Int)
def jx (size high:Int) (row:List Int) (sy:Nat→Int):Nat→Nat→Int
 |0=>sy
 |i+1=>qm (jx size high row sy i) (kad size high i).toNat (row.getD i 0)
def qF (l:List Int) (size:Int):Nat→Int:=
 jx size (size-jK l l.length) (kau l l.length) (kbo l size l.length) (size-jK l l.length).toNat
def jy (sy:Nat→Int) (s:Int):Nat→Int
 |0=>0
 |k+1=>jy sy s k+(if sy k=s then 1 else 0)
def xT (l:List Int) (sy:Nat→Int) (k:Nat):Int:=kU (l.getD (sy k).toNat 0)+jy sy (sy k) k
def bT (log x:Int):Int:=IntKind.u8.wrap (log+1-kW x)
def kgt (log size x:Int):Int:=IntKind.u16.wrap (bV .sub .i64 (bV .shl .i64 x (IntKind.u64.wrap (log+1-kW x))) size)
def kbV (l:List Int) (log size:Int) (i m:Nat):Int:=if m<i then bT log (xT l (qF l size) m) else 0
def kbA (l:List Int) (log size:Int) (i m:Nat):Int:=if m<i then kgt log size (xT l (qF l size) m) else 0
theorem klE (l:List Int) (log size:Int) (i:Nat):qm (kbV l log size i) i (bT log (xT l (qF l size) i))=kbV l log size (i+1):=by
 funext m
 rw[je];unfold kbV;by_cases h:m=i
 ·subst h;rw[if_pos rfl,if_pos (by omega)]
 ·rw[if_neg h];by_cases h2:m<i
  ·rw[if_pos h2,if_pos (by omega)]
  ·rw[if_neg h2,if_neg (by omega)]
theorem klF (l:List Int) (log size:Int) (i:Nat):qm (kbA l log size i) i (kgt log size (xT l (qF l size) i))=kbA l log size (i+1):=by
 funext m
 rw[je];unfold kbA;by_cases h:m=i
 ·subst h;rw[if_pos rfl,if_pos (by omega)]
 ·rw[if_neg h];by_cases h2:m<i
  ·rw[if_pos h2,if_pos (by omega)]
  ·rw[if_neg h2,if_neg (by omega)]
theorem kav (l:List Int):∀i,0≤jK l i∧jK l i≤i
 |0=>by simp[jK]
 |i+1=>by
  have:=kav l i;simp only[jK];split<;>(push_cast;omega)
theorem kbW (l:List Int) (h:∀c∈l,-1≤c):∀i,i≤l.length→((kau l i).length:Int)=qT (l.take i)-jK l i
 |0,_=>by simp[kau,jK,qT]
 |i+1,hi=>by
  have ih:=kbW l h i (by omega);have hc : -1≤l.getD i 0:=h _ (by rw[List.getD_eq_getElem?_getD,List.getElem?_eq_getElem (by omega)];exact List.getElem_mem _);rw[kaZ (by omega),kdO,kau,jK,List.length_append,List.length_replicate];unfold kU;split<;>(push_cast;omega)
theorem kfv (l:List Int):∀i,∀s∈kau l i,0≤s∧s<i
 |0,s,h=>by simp[kau] at h
 |i+1,s,h=>by
  simp only[kau,List.mem_append] at h;rcases h with h|h
  ·have:=kfv l i s h;omega
  ·have:=List.eq_of_mem_replicate h;omega
theorem kbp (sy:Nat→Int) (s:Int):∀k,0≤jy sy s k∧jy sy s k≤k
 |0=>by simp[jy]
 |k+1=>by
  have:=kbp sy s k;simp only[jy];split<;>(push_cast;omega)
theorem kfw (l:List Int) (size:Int):∀i m,0≤kbo l size i m∧kbo l size i m<max i 1
 |0,m=>by simp[kbo]
 |i+1,m=>by
  have:=kfw l size i m;simp only[kbo];split
  ·rw[je];split<;>omega
  ·omega
theorem kbX {l:List Int} (i:Nat):l.getD i 0∈l∨l.getD i 0=0:=by
 rw[List.getD_eq_getElem?_getD];cases h:l[i]? with
 |none=>exact .inr rfl
 |some v=>exact .inl (List.mem_of_getElem? h)
theorem kdc {size high n:Int} {row:List Int} {sy:Nat→Int} (hn:0<n) (h1:∀m,0≤sy m∧sy m<n) (h2:∀s∈row,0≤s∧s<n):∀i m,0≤jx size high row sy i m∧jx size high row sy i m<n
 |0,m=>h1 m
 | i+1,m=>by
  have:=kdc (size:=size) (high:=high) hn h1 h2 i m;simp only[jx];rw[je];split
  ·rcases kbX (l:=row) i with h|h
   ·exact h2 _ h
   ·rw[h];omega
  ·exact this
theorem kbq {l:List Int} (size:Int) (h:0<l.length) (m:Nat):0≤qF l size m∧qF l size m<l.length:=by
 refine kdc (by omega) (fun m=>?_) (fun s hs=>?_) _ m
 ·have:=kfw l size l.length m;omega
 ·exact kfv l _ s hs
theorem kcw {l:List Int} (h:∀c∈l,-1≤c) (i:Nat):0≤kU (l.getD i 0)∧kU (l.getD i 0)≤qT l:=by
 by_cases hi:i<l.length
 ·have h1:=kac h i;have h2:=kac h (i+1);rw[kaZ hi,kdO] at h2;have:=kcv (h (l.getD i 0) (by rw[List.getD_eq_getElem?_getD,List.getElem?_eq_getElem (by omega)];exact List.getElem_mem _));omega
 ·have h1:=kac h 0;rw[List.getD_eq_getElem?_getD,List.getElem?_eq_none (by omega)];have:kU ((none:Option Int).getD 0)=0:=by decide
  omega
theorem kcJ {size high:Int} (hs:size=32∨size=64∨size=128∨size=256∨size=512∨size=1024∨size=2048∨size=4096) (hh:0<high):∀i,0≤kad size high i∧kad size high i<high∧kad size high i<size
 |0=>by simp only[kad];omega
 |i+1=>by
  have ih:=kcJ hs hh i;have hsb:=kat (size:=size) (by omega) (kad size high i);obtain⟨m,hm,hm0⟩:=kqh hs hsb.1 hsb.2;simp only[kad,km9];have:=kiq hh 5000 m _ hm0 (by omega);have:=kek (size:=size) (high:=high) (by omega) 5000 _ hsb.1 hsb.2;omega
end Go.Proofs.Ytlclleihoampdaa
