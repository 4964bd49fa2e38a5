import Derived.Test.YtlclleihoampdaaFB
import Derived.LoopNIn
import Derived.ProofKit
import Derived.OpenShut
import Derived.Carry
import Derived.JoinedCond
import Derived.Deep.SlicePairs
set_option linter.unusedVariables false
set_option linter.unusedSimpArgs false
namespace Go.Sx
open Go

structure Cv (P:Program) (n0:Nat) (s:SS) (S:SS→Prop):Prop where
 out:∀σ0 s0 w0 σ w,s0.h.length≤n0→Ok P σ s w→Step σ0 s0 w0 σ s w→∃σ2 s2,S s2∧Ok P σ2 s2 w∧Step σ0 s0 w0 σ2 s2 w∧act σ2 s2=act σ s∧(n0≤s.h.length→∀i,i<n0→σ2 i=σ i)
def km1 (i:Nat):List Nat→Bool
 |[]=>false
 |m::D=>if ltB m 1000000 then(if i==m then true else km1 i D) else(if ltB i ((m-1000000) / 1000) then km1 i D else(if ltB i ((m-1000000) / 1000+m % 1000) then true else km1 i D))
def kkt (D:List Nat) (js:Nat→Value):Nat→List SV→List SV
 |_,[]=>[]
 |i,v::l=>(if km1 i D then .val (js i) else v)::kkt D js (i+1) l
def hav (D:List Nat) (js:Nat→Value) (s:SS):SS:={ s with t:=kkt D js 0 s.t }
def km2 (m:Nat) (s:SS):SS:={ s with h:=s.h.take m }
def kku:List Nat→List Nat→Bool
 |[],_=>true
 |n::l,R=>if ka4 n R then kku l R else false
def nilB (b j t:Nat) (k:IntKind) (s:SS):SS:=
 { s with h:=(match s.h[b]? with
  |some (.one ty row)=>s.h.set b (.one ty (row.set j (.slice s.h.length .z 1 0 0)))
  |_=>s.h)++[.buf t k [] 0] }
def isNil (v:SV):Bool:=
 match v with
 |.val (.slice none 0 0)=>true
 |_=>false
def knL (b j:Nat) (s:SS):Bool:=
 match s.h[b]? with
 |some (.one _ row)=>(match row[j]? with
  |some v=>isNil v
  |none=>false)
 |_=>false
def nilT (j t:Nat) (k:IntKind) (s:SS):SS:={ s with t:=s.t.set j (.slice s.h.length .z 1 0 0),h:=s.h++[.buf t k [] 0] }
def klL (j:Nat) (s:SS):Bool:=
 match s.t[j]? with
 |some v=>isNil v
 |none=>false
section
variable {P:Program} {s:SS} {S:SS→Prop} {n0:Nat}
theorem Cv.here (h:S s):Cv P n0 s S:=⟨fun _ _ _ σ w _ hok hst=>⟨σ,s,h,hok,hst,rfl,fun _ _ _=>rfl⟩⟩
theorem Cv.mono {S':SS→Prop} (h:Cv P n0 s S) (hS:∀s,S s→S' s):Cv P n0 s S':=
 ⟨fun σ0 s0 w0 σ w hn hok hst=>let ⟨σ2,s2,h1,h2⟩:=h.out σ0 s0 w0 σ w hn hok hst;⟨σ2,s2,hS _ h1,h2⟩⟩
theorem khn {D:List Nat} {σ:Names} {js:Nat→Value}:∀(l:List SV) (i:Nat),(∀k v,l[k]?=some v→js (i+k)=den σ v)→denL σ (kkt D js i l)=denL σ l
 |[],_,_=>rfl
 |v::l,i,h=>by
  simp only[kkt,denL];rw[khn l (i+1) (fun k u hk=>by rw[←h (k+1) u (by simpa using hk)];congr 1;omega)];congr 1
  split
  ·simpa [den] using h 0 v rfl
  ·rfl
theorem Cv.hav (D:List Nat) (h:∀js,Cv P n0 (hav D js s) S):Cv P n0 s S:=by
 refine⟨fun σ0 s0 w0 σ w hn hok hst=>?_⟩
 have ha:act σ (Sx.hav D (fun k=>den σ (s.t.getD k .undef)) s)=act σ s:=by
  unfold act;simp only[Sx.hav];rw[khn s.t 0 (fun k v hv=>by simp[List.getD,hv])]
 obtain⟨σ2,s2,h1,h2,h3,h4,h5⟩:=(h (fun k=>den σ (s.t.getD k .undef))).out σ0 s0 w0 σ w hn ⟨⟨hok.lt,hok.ne,hok.blk,hok.marks,hok.rnd⟩,⟨hok.cold.there,hok.cold.apart⟩⟩
  ⟨hst.size,hst.os,hst.tape,hst.output,hst.far,hst.len,hst.names,hst.red,hst.own,hst.rd⟩
 exact⟨σ2,s2,h1,h2,h3,h4.trans ha,h5⟩
theorem Cv.cut (m:Nat) (hm:n0≤m) (hle:m≤s.h.length) (hd:kbW [] (s.h.take m) s.d (kbX [] (s.h.take m) s.rd True)) (h:Cv P n0 (km2 m s) S):Cv P n0 s S:=by
 refine⟨fun σ0 s0 w0 σ w hn hok hst=>?_⟩
 obtain⟨hd,h1⟩:=jE hd;obtain⟨_,h2⟩:=jU hd;have hget:∀i B,(s.h.take m)[i]?=some B→s.h[i]?=some B:=fun i B hB=>by
  rw[List.getElem?_take] at hB;split at hB
  ·exact hB
  ·cases hB
 obtain⟨σ2,s2,k1,k2,k3,k4,k5⟩:=h.out σ0 s0 w0 σ w hn ⟨⟨fun i p hi hp=>hok.lt i p (by simp[km2] at hi;omega) hp,fun i j B C p q hij hB hC=>hok.ne i j B C p q hij (hget _ _ hB) (hget _ _ hC),fun i B hB=>hok.blk i B (hget _ _ hB),
   fun l hl=>⟨(hok.marks l hl).1,(h1 l hl).2⟩,fun l hl=>⟨(hok.rnd l hl).1,(h2 l hl).2⟩⟩,⟨hok.cold.there,fun i B p hB=>hok.cold.apart i B p (hget _ _ hB)⟩⟩
  ⟨hst.size,hst.os,hst.tape,hst.output,hst.far,by simp[km2];omega,hst.names,hst.red,fun i B p hB=>hst.own i B p (hget _ _ hB),hst.rd⟩
 exact⟨σ2,s2,k1,k2,k3,k4,fun _=>k5 (by simp[km2];omega)⟩
theorem kbE:∀{l R:List Nat},kku l R=true→∀i∈l,i∈R
 |[],R,_,i,hi=>by cases hi
 | n::l,R,h,i,hi=>by
  simp only[kku] at h;split at h
  ·rename_i hn;rcases List.mem_cons.1 hi with rfl|hi
   ·exact memN_iff.1 hn
   ·exact kbE h i hi
  ·cases h
theorem Cv.red (R:List Nat) (hR:kku s.r R=true) (hd:kbW R s.h s.d (kbX R s.h s.rd True)) (h:Cv P n0 { s with r:=R } S):Cv P n0 s S:=by
 refine⟨fun σ0 s0 w0 σ w hn hok hst=>?_⟩
 obtain⟨hd,h1⟩:=jE hd;obtain⟨_,h2⟩:=jU hd;exact h.out σ0 s0 w0 σ w hn ⟨⟨hok.lt,hok.ne,hok.blk,h1,h2⟩,⟨hok.cold.there,hok.cold.apart⟩⟩
  ⟨hst.size,hst.os,hst.tape,hst.output,hst.far,hst.len,fun i hi hr=>hst.names i hi (fun h=>hr (kbE hR i h)),fun i hi=>kbE hR i (hst.red i hi),hst.own,hst.rd⟩
theorem kez {σ:Names} {j:Nat} {v u:SV}:∀{l:List SV},l[j]?=some v→den σ u=den σ v→denL σ (l.set j u)=denL σ l:=by
 intro l hl hd;rw[kq,kq,List.map_set,hd];refine List.ext_getElem? fun i=>?_
 rw[List.getElem?_set];split
 ·rename_i hi;subst hi
  split
  ·rename_i hlt;simp[hl]
  ·rename_i hlt;simp at hlt;simp[hlt]
 ·rfl
theorem kho {v:SV} (h:isNil v=true):v=.val (.slice none 0 0):=by
 unfold isNil at h;split at h
 ·rfl
 ·cases h
theorem kjt (σ:Names) (n:Nat):den (more σ n none) (.slice n .z 1 0 0)=den (more σ n none) (.val (.slice none 0 0)):=by simp[den,more]
theorem Cv.nilB (b j t:Nat) (k:IntKind) (hat:knL b j s=true) (hsc:scS s True) (h:Cv P n0 (nilB b j t k s) S):Cv P n0 s S:=by
 refine⟨fun σ0 s0 w0 σ w hn hok hst=>?_⟩
 obtain⟨h1,h2,h3⟩:=hok.new (B:=.buf t k [] 0) (p:=none) hsc ⟨Nat.le_refl _,rfl,rfl,rfl,fun _ _=>rfl⟩ (fun q hq=>by cases hq) (.inl ⟨rfl,rfl,rfl⟩);unfold knL at hat;split at hat
 rotate_left
 ·cases hat
 rename_i ty row hb;split at hat
 rotate_left
 ·cases hat
 rename_i v hv;have hv':=kho hat;subst hv';have hbl:b<s.h.length:=(List.getElem?_eq_some_iff.1 hb).1;have hb':(alloc (.buf t k [] 0) s).h[b]?=some (.one ty row):=by simp only[alloc];rw[List.getElem?_append_left hbl];exact hb
 obtain⟨g,hg,hh⟩:=h1.blk b _ hb';obtain⟨h4,h5⟩:=h1.update (B':=.one ty (row.set j (.slice s.h.length .z 1 0 0))) hb' rfl hg rfl (fun e=>by cases e) (fun e=>by cases e) (fun _ _=>rfl) rfl rfl rfl rfl
  ⟨g,rfl,by rw[kez hv (kjt σ s.h.length)];exact hh⟩
 have he:({ alloc (.buf t k [] 0) s with h:=(alloc (.buf t k [] 0) s).h.set b (.one ty (row.set j (.slice s.h.length .z 1 0 0))) }:SS)=Sx.nilB b j t k s:=by
  simp only[Sx.nilB,hb,alloc];rw[List.set_append_left _ _ hbl]
 rw[he] at h4 h5;obtain⟨σ2,s2,k1,k2,k3,k4,k5⟩:=h.out σ0 s0 w0 _ w hn h4 (hst.trans (h2.trans h5));refine⟨σ2,s2,k1,k2,k3,k4.trans h3,fun hl i hi=>(k5 (by rw[←he];simp[alloc];omega) i hi).trans (jy (by omega))⟩
theorem Cv.nilT (j t:Nat) (k:IntKind) (hat:klL j s=true) (hsc:scS s True) (h:Cv P n0 (nilT j t k s) S):Cv P n0 s S:=by
 refine⟨fun σ0 s0 w0 σ w hn hok hst=>?_⟩
 obtain⟨h1,h2,h3⟩:=hok.new (B:=.buf t k [] 0) (p:=none) hsc ⟨Nat.le_refl _,rfl,rfl,rfl,fun _ _=>rfl⟩ (fun q hq=>by cases hq) (.inl ⟨rfl,rfl,rfl⟩);unfold klL at hat;split at hat
 rotate_left
 ·cases hat
 rename_i v hv;have hv':=kho hat;subst hv';obtain⟨σ2,s2,k1,k2,k3,k4,k5⟩:=h.out σ0 s0 w0 (more σ s.h.length none) w hn ⟨⟨h1.lt,h1.ne,h1.blk,h1.marks,h1.rnd⟩,⟨h1.cold.there,h1.cold.apart⟩⟩
  (hst.trans ⟨h2.size,h2.os,h2.tape,h2.output,h2.far,h2.len,h2.names,h2.red,h2.own,h2.rd⟩)
 refine⟨σ2,s2,k1,k2,k3,k4.trans ?_,fun hl i hi=>(k5 (by simp[Sx.nilT];omega) i hi).trans (jy (by omega))⟩
 rw[←h3];unfold act;simp only[Sx.nilT,alloc];rw[kez hv (kjt σ s.h.length)]
theorem WX.cv {x:XC} {K:XE→SS→Prop} (h:Cv P s.h.length s (fun s2=>WX P x s2 K)):WX P x s K:=by
 refine⟨fun c hc σ w hok=>?_⟩
 obtain⟨σ2,s2,h1,h2,h3,h4,_⟩:=h.out σ s w σ w (Nat.le_refl _) hok (Step.refl σ s w);have:=h1.out c hc σ2 w h2;rw[qP hok h2 h3,h4] at this;refine wpIn_mono this (fun e a w' hp=>?_)
 obtain⟨e',σ',s',k1,k2,k3,k4⟩:=hp;exact⟨e',σ',s',k1,k2,h3.trans k3,k4⟩
theorem CallX.cv {f:Nat} {args:List SV} {K:SV→SS→Prop} {X:XE→SS→Prop} (hgo:∀(xs:Array Value) (w:World),(callFunc f xs).run P w=.ok (.enter f xs) w)
  (h:Cv P s.h.length s (fun s2=>CallX P f args s2 K X)) (hsc:scL s.h.length args=true):CallX P f args s K X:=by
 refine⟨hgo,fun σ w hok=>?_⟩
 obtain⟨σ2,s2,h1,h2,h3,h4,h5⟩:=h.out σ s w σ w (Nat.le_refl _) hok (Step.refl σ s w);have:=h1.out σ2 w h2;rw[qP hok h2 h3,sc_denL (h5 (Nat.le_refl _)) args hsc] at this;refine this.mono ?_
 rintro e w' ⟨σ',s',k1,k2,k3,k4⟩;exact⟨σ',s',k1,h3.trans k2,k3.trans h4,k4⟩
theorem kkv {b:XC} {K:XE→SS→Prop} (hm:P.follows .mixedOrders=true) (J:Nat→SS→Prop) (h0:Cv P s.h.length s (fun s'=>∃n,J n s'))
  (round:∀n s',J n s'→ex std P b s' (fun e s''=>match e with
   |.normal=>Cv P s.h.length s'' (fun s3=>∃m,m<n∧J m s3)
   |.exit id=>K (.exit id) s''
   |.ret=>K .ret s''
   |.panic v=>K (.panic v) s'')):WX P (.loop b) s K:=by
 refine⟨fun c hc σ w hok=>?_⟩
 have hcl:∃cb,c=.loop cb∧kt P cb=some b:=by
  cases c
  case loop cb=>
   simp only[kt,Option.map_eq_some_iff,XC.loop.injEq] at hc;obtain⟨x,hx,rfl⟩:=hc;exact⟨cb,rfl,hx⟩
  case region id ops d=>cases d<;>simp only[kt] at hc<;>(rcases kaO hc with hc|hc)<;>first|(cases hc;done)|((repeat' split at hc)<;>simp[kg5,kfj] at hc)
  all_goals simp only[kt] at hc
  all_goals first|(cases hc;done)|((repeat' split at hc)<;>simp at hc;done)
 obtain⟨cb,rfl,hcb⟩:=hcl;have key:∀(N n:Nat),n≤N→∀σ' s' w',J n s'→Ok P σ' s' w'→Step σ s w σ' s' w'→Code.roundsIn (FR P (rOf σ s)) 0 P cb (kP P σ s w K) (N+1) (act σ' s') w':=by
  intro N;induction N with
  | zero=>
   intro n hn σ' s' w' hJ hok' hst;rw[roundsIn_succ];have:=kbc (kbe hm) cb b σ' s' w' _ (Exit.then (Code.roundsIn (FR P (rOf σ s)) 0 P cb (kP P σ s w K) 0) (kP P σ s w K)) hcb (round n s' hJ) hok' (fun e' e σ'' s'' a w'' hK hok'' hst'' he=>?_)
   ·rwa [qP hok hok' hst] at this
   ·cases e'<;>cases e<;>simp only[qg] at he<;>simp only at hK
    ·obtain⟨σ3,s3,⟨m,hm',_⟩,_⟩:=hK.out σ s w σ'' w'' (Nat.le_refl _) hok'' (hst.trans hst'');omega
    ·exact⟨_,σ'',s'',hK,hok'',hst.trans hst'',he⟩
    ·exact⟨_,σ'',s'',hK,hok'',hst.trans hst'',he⟩
    ·exact⟨_,σ'',s'',hK,hok'',hst.trans hst'',he⟩
  | succ N ih=>
   intro n hn σ' s' w' hJ hok' hst;rw[roundsIn_succ];have:=kbc (kbe hm) cb b σ' s' w' _ (Exit.then (Code.roundsIn (FR P (rOf σ s)) 0 P cb (kP P σ s w K) (N+1)) (kP P σ s w K)) hcb (round n s' hJ) hok' (fun e' e σ'' s'' a w'' hK hok'' hst'' he=>?_)
   ·rwa [qP hok hok' hst] at this
   ·cases e'<;>cases e<;>simp only[qg] at he<;>simp only at hK
    ·subst he;obtain⟨σ3,s3,⟨m,hm',hJ'⟩,hok3,hst3,ha,_⟩:=hK.out σ s w σ'' w'' (Nat.le_refl _) hok'' (hst.trans hst'');have:=ih m (by omega) σ3 s3 w'' hJ' hok3 hst3;rw[ha] at this;exact this
    ·exact⟨_,σ'',s'',hK,hok'',hst.trans hst'',he⟩
    ·exact⟨_,σ'',s'',hK,hok'',hst.trans hst'',he⟩
    ·exact⟨_,σ'',s'',hK,hok'',hst.trans hst'',he⟩
 obtain⟨σ1,s1,⟨n,hJ⟩,hok1,hst1,ha,_⟩:=h0.out σ s w σ w (Nat.le_refl _) hok (Step.refl σ s w);have:=wpIn_loop_rounds (n+1) (key n n (Nat.le_refl _) σ1 s1 w hJ hok1 hst1)
 rwa [ha] at this
end
end Go.Sx
namespace Go.Sx
open Go

def km3:List SV→List Nat→List SV→List SV
 |t,p::ps,v::vs=>km3 (t.set p v) ps vs
 |t,_,_=>t
def ready (h:List SB) (l:Nat) (K:List SV→List Nat→XC→XC→Prop):Prop:=
 match h[l]? with
 |some (.loop .ready none t ps a b)=>K t ps a b
 |_=>False
def noD (s:SS):Bool:=s.d.isEmpty&&s.x.isEmpty
def km4 (l:Nat) (e:XE) (s2:SS) (K:Bool→List SB→Prop) (Y:SV→Prop:=fun _=>False):Prop:=
 match s2.h[l]? with
 |some (.loop _ _ t ps a b)=>(match e with
  |.normal=>K true (s2.h.set l (.loop .ready none t ps a b))
  |.ret=>K false (s2.h.set l (.loop .done (some .ret) t ps a b))
  |.exit id=>K false (s2.h.set l (.loop .done (some (.exit id)) t ps a b))
  |.panic v=>if noD s2 then Y v else False)
 |_=>False
def qR (l:Nat) (t:List SV) (ps:List Nat) (args:List SV) (s:SS):SS:={ t:=km3 t ps args,h:=s.h,r:=[],d:=[],rd:=some l }
section
variable {P:Program} {σ:Names} {s:SS} {w:World}

theorem keA {σ':Names} {H':List SB} {R:List Nat} {w':World} (hok:Ok P σ s w) (hsc:scL s.h.length s.t=true) (hok':Ok P σ' (small H' R) w') (hst:Step σ (small s.h []) w σ' (small H' R) w')
  (hkd:∀l∈s.d,l∉R∧H'[l]?=some .defd) (hkr:∀l,s.rd=some l→l∉R∧∃B,H'[l]?=some B∧jh B=true) :
  Ok P σ' (back H' R (fun i=>den σ (s.t.getD i .undef)) s) w'∧Step σ s w σ' (back H' R (fun i=>den σ (s.t.getD i .undef)) s) w'∧act σ' (back H' R (fun i=>den σ (s.t.getD i .undef)) s)=act σ s:=by
 have hlt:∀l,l∈s.d→l<s.h.length:=fun l hl=>(List.getElem?_eq_some_iff.1 (hok.marks l hl).2).1
 suffices hz:Ok0 P σ' (back H' R (fun i=>den σ (s.t.getD i .undef)) s) w'∧Step σ s w σ' (back H' R (fun i=>den σ (s.t.getD i .undef)) s) w'∧act σ' (back H' R (fun i=>den σ (s.t.getD i .undef)) s)=act σ s from
  ⟨⟨hz.1,hok.cold.step hz.2.1 rfl⟩,hz.2⟩
 refine⟨?_,?_,?_⟩
 ·refine⟨hok'.lt,hok'.ne,hok'.blk,fun l hl=>⟨?_,(hkd l hl).2⟩,fun l hl=>⟨?_,(hkr l hl).2⟩⟩
  ·intro hm;rcases mem_addAll.1 hm with hm|hm
   ·exact(hkd l hl).1 hm
   ·exact(hok.marks l hl).1 hm
  ·intro hm;rcases mem_addAll.1 hm with hm|hm
   ·exact(hkr l hl).1 hm
   ·exact(hok.rnd l hl).1 hm
 ·exact⟨hst.size,hst.os,hst.tape,hst.output,hst.far,hst.len,fun i hi hr=>hst.names i hi (fun hm=>hr (mem_addAll.2 (.inl hm))),fun i hi=>mem_addAll.2 (.inr hi),hst.own,rfl⟩
 ·unfold act;simp only[back];rw[qI hsc (fun i hi hr=>hst.names i hi hr)];congr 1
  refine congrArg (·++s.x) (List.map_congr_left ?_)
  intro l hl;unfold mark;rw[hst.names l (hlt l hl) (hkd l hl).1]
theorem khp (σ:Names):∀(ps:List Nat) (args t:List SV),(List.zip ps (denL σ args)).foldl (fun(tmps:Array Value) (p:Nat×Value)=>tmps.setIfInBounds p.1 p.2) (denL σ t).toArray=(denL σ (km3 t ps args)).toArray
 |[],args,t=>by cases args<;>rfl
 |p::ps,[],t=>rfl
 |p::ps,v::vs,t=>by
  simp only[denL,List.zip_cons_cons,List.foldl_cons,km3];rw[←khp σ ps vs (t.set p v)];congr 1
  simp[kq,List.map_set]
theorem keB {h:List SB} {l:Nat} {K:List SV→List Nat→XC→XC→Prop} (hr:ready h l K):∃t ps a b,h[l]?=some (.loop .ready none t ps a b)∧K t ps a b:=by
 unfold ready at hr;split at hr
 ·rename_i t ps a b hh;exact⟨t,ps,a,b,hh,hr⟩
 ·exact hr.elim
theorem kkw {l:Nat} {e:XE} {s2:SS} {K:Bool→List SB→Prop} {Y:SV→Prop} (h:km4 l e s2 K Y):∃st p t ps a b,s2.h[l]?=some (.loop st p t ps a b) ∧
  ((e=.normal∧K true (s2.h.set l (.loop .ready none t ps a b)))∨(e=.ret∧K false (s2.h.set l (.loop .done (some .ret) t ps a b)))∨(∃id,e=.exit id∧K false (s2.h.set l (.loop .done (some (.exit id)) t ps a b)))∨(∃v,e=.panic v∧s2.d=[]∧s2.x=[]∧Y v)):=by
 unfold km4 at h;split at h
 ·rename_i st p t ps a b hh;refine⟨st,p,t,ps,a,b,hh,?_⟩
  cases e with
  |normal=>exact .inl ⟨rfl,h⟩
  |ret=>exact .inr (.inl ⟨rfl,h⟩)
  |exit id=>exact .inr (.inr (.inl ⟨id,rfl,h⟩))
  | panic v=>
   simp only at h
   split at h
   ·rename_i hn;simp only[noD,Bool.and_eq_true,List.isEmpty_iff] at hn;exact .inr (.inr (.inr ⟨v,rfl,hn.1,hn.2,h⟩))
   ·exact h.elim
 ·exact h.elim
def kiQ (P:Program) (l:Nat) (R:Ending→World→Prop):Exit→Act→World→Prop:=fun e a w=>
 match e with
 |.panic ch=>a.defers=[]∧R (.panicked ch) w
 |e=>roundPost P l R e a w
theorem kdb {F:Fence} {n l:Nat} {f:FuncId} {tmps:Array Value} {assign body:Code} {R:Ending→World→Prop} (hF:F.fn f) (hf:kiu P f)
  (h:assign.wpIn (F.inRound l) n P (Exit.then (fun a₁ w₁=>∃w₂,(Instr.beginRound l).run P w₁=.ok () w₂∧body.wpIn (F.inRound l) n P (kiQ P l R) a₁ w₂) (fun _ _ _=>False)) { tmps:=tmps,defers:=[] } w) :
  RoundIn F n P l f tmps assign body w R:=by
 refine⟨hF,fun c cs hr=>?_⟩
 obtain⟨b,hb⟩:∃b:Frame,b={ (default:Frame) with fn:=f,kind:=.normal,roundOf:=some l }:=⟨_,rfl⟩;have hbf:b.fn=f:=by rw[hb]
 have hbr:b.roundOf=some l:=by rw[hb]
 have hbk:b.kind=.normal:=by rw[hb]
 have hb0:Frame.round l f tmps assign body .normal=b.atR { tmps:=tmps,defers:=[] } [.code assign,.beginRound,.code body]:=by
  rw[hb];simp[Frame.round,Frame.atR]
 have hF':(F.inRound l).fn b.fn:=by rw[hbf];exact hF
 have hr':(F.inRound l).room ((c::cs).length+1+n):=hr;obtain⟨e,a₁,w₁,hq,harr⟩:=h b [.beginRound,.code body] (c::cs) hbr hF' hr';rw[←hb0] at harr;cases e<;>simp only[Exit.then] at hq
 obtain⟨w₂,hbr2,hbody⟩:=hq;have s1:=StepsIn.trans harr (.one (fenced_calm (fr:=b.atR a₁ [.beginRound,.code body]) hF' hr' rfl) (stepR_beginRound hbr hbr2));obtain⟨e₂,a₂,w₃,hq₂,harr₂⟩:=hbody b [] (c::cs) hbr hF' hr';have hsome:b.roundOf.isSome=true:=by rw[hbr];rfl
 cases e₂ with
 |normal=>
  obtain⟨v,w₄,hend,hR⟩:=hq₂;exact⟨.returned v,w₄,hR,s1.trans (StepsIn.trans harr₂ (.one (fenced_calm (fr:=b.atR a₂ []) hF' hr' rfl) (stepR_round_end hbr hbk hend)))⟩
 |ret=>
  obtain⟨v,w₄,hend,hR⟩:=hq₂;obtain⟨k₁,hs⟩:=harr₂.2 hsome;exact⟨.returned v,w₄,hR,s1.trans (StepsIn.trans hs (.one (fenced_calm (fr:=b.atR a₂ (.code .ret::k₁)) hF' hr' rfl) (stepR_round_ret hbr hbk hend)))⟩
 |exit id=>
  obtain⟨v,w₄,hend,hR⟩:=hq₂;obtain⟨k₁,hk,hs⟩:=harr₂.2 hsome rfl;exact⟨.returned v,w₄,hR,s1.trans (StepsIn.trans hs (.one (fenced_calm (fr:=b.atR a₂ (.code (.exit id)::k₁)) hF' hr' rfl) (stepR_round_exit hbr hbk hk hend)))⟩
 |goto t=>
  obtain⟨v,w₄,hend,hR⟩:=hq₂;obtain⟨k₁,hk,hs⟩:=harr₂.2 hsome rfl;exact⟨.returned v,w₄,hR,s1.trans (StepsIn.trans hs (.one (fenced_calm (fr:=b.atR a₂ (.code (.goto t)::k₁)) hF' hr' rfl) (stepR_round_goto hbr hbk hk hend)))⟩
 |panic ch=>
  obtain⟨hdf,hR⟩:=hq₂;obtain⟨todo,hs⟩:=harr₂;obtain⟨fn,hfn⟩:=hf;have hl:Frame.leaving P { b.atR a₂ todo with mode:=.panicking ch } w₃ (.panicked ch):=⟨rfl,by simpa [Frame.atR] using hdf,fn,by simpa [Frame.atR,hbf] using hfn⟩;exact⟨.panicked ch,w₃,hR,s1.trans (StepsIn.trans hs (.one (fenced_leaving (F:=F.inRound l) hF' hr' hl) (step_leave_panicked hl)))⟩
 |outgrown=>exact hq₂.elim
theorem kdC {l b:Nat} {st st':LSt} {p p':Option XE} {t:List SV} {ps:List Nat} {a c:XC} {fn:FuncId} {ca cb:Code} {d:Nat} (hok:Ok P σ s w) (hfn:kiu P fn) (hl:s.h[l]?=some (.loop st p t ps a c)) (hσ:σ l=some (b,0))
  (ha:kt P ca=some a) (hc:kt P cb=some c) :
  Ok P σ { s with h:=s.h.set l (.loop st' p' t ps a c) } (w.putObj b (.loop { state:=lst st',pending:=p'.bind jump,fn,tmps:=(denL σ t).toArray,params:=ps.toArray,assign:=ca,body:=cb,defers:=d })) ∧
  Step σ s w σ { s with h:=s.h.set l (.loop st' p' t ps a c) } (w.putObj b (.loop { state:=lst st',pending:=p'.bind jump,fn,tmps:=(denL σ t).toArray,params:=ps.toArray,assign:=ca,body:=cb,defers:=d })):=by
 have hlt:=hok.lt l _ (List.getElem?_eq_some_iff.1 hl).1 hσ;exact hok.update hl rfl hσ rfl (fun e=>by cases e) (fun _=>rfl) (fun k hk=>World.putObj_heap_other hk) World.putObj_size rfl rfl rfl ⟨b,fn,ca,cb,d,rfl,ha,hc,hfn,World.putObj_heap_same hlt⟩
theorem kiR {l:Nat} {args:List SV} {K:SV→SS→Prop} {X:XE→SS→Prop} (hm:P.follows .mixedOrders=true) (hsc:scL s.h.length s.t=true)
  (h:ready s.h l (fun t ps asg body=>args.length=ps.length∧ex std P asg (qR l t ps args s) (fun e s1=>match e with
   |.normal=>ready s1.h l (fun t1 ps1 a1 b1=>ex std P body { s1 with h:=s1.h.set l (.loop .busy none t1 ps1 a1 b1) } (fun e2 s2=>km4 l e2 s2 (fun v H=>qE s K (.bool v) H s2.r) (fun v=>qE s (fun v s'=>X (.panic v) s') v s2.h s2.r)))
   |_=>False))):YieldX P l args s K X:=by
 refine⟨fun σ w hok=>?_⟩
 obtain⟨t,ps,asg,body,hl,hal,h⟩:=keB h;obtain⟨b,fn,ca,cb,d,hσ,hca,hcb,hfn,hh⟩:=hok.blk l _ hl;have hσb:((σ l).map (·.1)).getD 0=b:=by rw[hσ];rfl
 rw[hσb];refine⟨fn,(ps.toArray.zip (denL σ args).toArray).foldl (fun tmps (t,a)=>tmps.setIfInBounds t a) (denL σ t).toArray,ca,cb,?_,?_⟩
 ·have hy:=run_yield (P:=P) (args:=(denL σ args).toArray) hh (by simp[jC,hal]);simp only[invoke];exact hy
 ·have hok0:Ok P σ (qR l t ps args s) w:=⟨⟨hok.lt,hok.ne,hok.blk,(fun l hl=>by cases hl),fun l' hl'=>⟨(by simp[qR]),by simp only[qR,Option.some.injEq] at hl';subst hl';exact⟨_,hl,rfl⟩⟩⟩,Cold.nil rfl⟩;have ha0:act σ (qR l t ps args s)={ tmps:=(ps.toArray.zip (denL σ args).toArray).foldl (fun tmps (t,a)=>tmps.setIfInBounds t a) (denL σ t).toArray,defers:=[] }:=by
   unfold act qR;simp only[List.map_nil,List.append_nil];rw[←khp];congr 1
   simp[←Array.foldl_toList]
  have hr0:rOf σ (qR l t ps args s)=some b:=by simp[rOf,qR,hσ]
  refine kdb hfn hfn ?_
  have hF:(FR P (rOf σ s)).inRound b=FR P (some b):=rfl;rw[hF,←hr0,←ha0];refine kbc (kbe hm) ca asg σ (qR l t ps args s) w _ _ hca h hok0 (fun e' e σ1 s1 a1 w1 hK hok1 hst1 he=>?_)
  cases e'<;>cases e<;>simp only[qg] at he<;>simp only at hK
  subst he;obtain⟨t1,ps1,a1,b1,hl1,hK⟩:=keB hK;have hrd1:s1.rd=some l:=hst1.rd;have hσ1:σ1 l=some (b,0):=by
   rw[hst1.names l (List.getElem?_eq_some_iff.1 hl).1 (hok1.rnd l hrd1).1];exact hσ
  obtain⟨b',fn1,ca1,cb1,d1,hσ1',hca1,hcb1,hfn1,hh1⟩:=hok1.blk l _ hl1;rw[hσ1] at hσ1';obtain rfl:b=b':=by simpa using hσ1'
  refine⟨_,run_beginRound hh1 rfl,?_⟩
  have hup:=kdC (st':=.busy) (p':=none) (fn:=fn1) (d:=d1) hok1 hfn1 hl1 hσ1 hca1 hcb1;have ha1:act σ1 { s1 with h:=s1.h.set l (.loop .busy none t1 ps1 a1 b1) }=act σ1 s1:=rfl;have hr1:rOf σ1 { s1 with h:=s1.h.set l (.loop .busy none t1 ps1 a1 b1) }=some b:=by simp[rOf,hrd1,hσ1]
  rw[hr0,←hr1,←ha1];refine kbc (kbe hm) cb body σ1 _ _ _ _ hcb hK hup.1 (fun e' e σ2 s2 a2 w2 hK hok2 hst2 he=>?_)
  obtain⟨st2,p2,t2,ps2,a2',b2',hl2,hE⟩:=kkw hK;have hst02:Step σ (qR l t ps args s) w σ2 s2 w2:=(hst1.trans hup.2).trans hst2;have hrd2:s2.rd=some l:=hst02.rd;have hσ2:σ2 l=some (b,0):=by
   rw[hst02.names l (List.getElem?_eq_some_iff.1 hl).1 (hok2.rnd l hrd2).1];exact hσ
  obtain⟨b',fn2,ca2,cb2,d2,hσ2',hca2,hcb2,hfn2,hh2⟩:=hok2.blk l _ hl2;rw[hσ2] at hσ2';obtain rfl:b=b':=by simpa using hσ2'
  have fin:∀(st':LSt) (p':Option XE) (v:Bool),qE s K (.bool v) (s2.h.set l (.loop st' p' t2 ps2 a2' b2')) s2.r →
    kjj P σ s w K X (.returned (.bool v)) (w2.putObj b (.loop { state:=lst st',pending:=p'.bind jump,fn:=fn2,tmps:=(denL σ2 t2).toArray,params:=ps2.toArray,assign:=ca2,body:=cb2,defers:=d2 })):=by
   intro st' p' v hP;have hup2:=kdC (st':=st') (p':=p') (fn:=fn2) (d:=d2) hok2 hfn2 hl2 hσ2 hca2 hcb2;obtain⟨hP,hkd⟩:=jE (hP (fun i=>den σ (s.t.getD i .undef)));obtain⟨hP,hkr⟩:=jU hP;have hs:=hst02.trans hup2.2;obtain⟨k1,k2,k3⟩:=keA (σ':=σ2) (H':=s2.h.set l (.loop st' p' t2 ps2 a2' b2')) (R:=s2.r) hok hsc ⟨⟨hup2.1.lt,hup2.1.ne,hup2.1.blk,(fun l hl=>by cases hl),(fun l hl=>by cases hl)⟩,Cold.nil rfl⟩
    ⟨hs.size,hs.os,hs.tape,hs.output,hs.far,hs.len,hs.names,hs.red,hs.own,rfl⟩ hkd hkr
   exact⟨σ2,_,k1,k2,k3,.bool v,hP,rfl⟩
  clear hK;rcases hE with⟨rfl,hE⟩|⟨rfl,hE⟩|⟨id,rfl,hE⟩|⟨v,rfl,hd2,hx2,hE⟩
  ·cases e<;>simp only[qg] at he
   exact⟨_,_,run_endRound none hh2,fin .ready none true hE⟩
  ·cases e<;>simp only[qg] at he
   exact⟨_,_,run_endRound (some .ret) hh2,fin .done (some .ret) false hE⟩
  ·cases e<;>simp only[qg] at he
   obtain⟨rfl,he⟩:=he;exact⟨_,_,run_endRound (some (.exit id)) hh2,fin .done (some (.exit id)) false hE⟩
  ·cases e<;>simp only[qg] at he
   obtain⟨rfl,he⟩:=he;refine⟨by rw[he];simp[act,hd2,hx2],?_⟩
   obtain⟨hP,hkd⟩:=jE (hE (fun i=>den σ (s.t.getD i .undef)));obtain⟨hP,hkr⟩:=jU hP;have hs:=hst02;obtain⟨k1,k2,k3⟩:=keA (σ':=σ2) (H':=s2.h) (R:=s2.r) hok hsc ⟨⟨hok2.lt,hok2.ne,hok2.blk,(fun l hl=>by cases hl),(fun l hl=>by cases hl)⟩,Cold.nil rfl⟩
    ⟨hs.size,hs.os,hs.tape,hs.output,hs.far,hs.len,hs.names,hs.red,hs.own,rfl⟩ hkd hkr
   exact⟨σ2,_,k1,k2,k3,v,hP,rfl⟩
end
end Go.Sx
namespace Go.Sx
open Go

def qA (ps:List Nat) (asg body:XC) (s:SS):SS:={ s with h:=s.h++[.defd,.loop .ready none s.t ps asg body],d:=s.h.length::s.d }
def kiS (l:Nat) (s:SS) (K:XE→SS→Prop):Prop:=
 if ka4 l s.r then False else match s.h[l]? with
 |some (.loop .ready none _ _ _ _)=>K .normal { s with h:=s.h.set l .free }
 |some (.loop .done none _ _ _ _)=>K .normal { s with h:=s.h.set l .free }
 |some (.loop .done (some .ret) _ _ _ _)=>K .ret { s with h:=s.h.set l .free }
 |some (.loop .done (some (.exit id)) _ _ _ _)=>K (.exit id) { s with h:=s.h.set l .free }
 |_=>False
section
variable {P:Program} {s:SS}
theorem khq {l:Nat} {K:XE→SS→Prop} (h:kiS l s K):l∉s.r∧∃st p t ps a b,s.h[l]?=some (.loop st p t ps a b)∧st≠.busy ∧
  ((p=none∧K .normal { s with h:=s.h.set l .free })∨(p=some .ret∧K .ret { s with h:=s.h.set l .free })∨(∃id,p=some (.exit id)∧K (.exit id) { s with h:=s.h.set l .free })):=by
 unfold kiS at h;split at h
 ·exact h.elim
 rename_i hm;refine⟨fun hm'=>hm (memN_iff.2 hm'),?_⟩
 split at h
 ·rename_i t ps a b hh;exact⟨.ready,none,t,ps,a,b,hh,by simp,.inl ⟨rfl,h⟩⟩
 ·rename_i t ps a b hh;exact⟨.done,none,t,ps,a,b,hh,by simp,.inl ⟨rfl,h⟩⟩
 ·rename_i t ps a b hh;exact⟨.done,_,t,ps,a,b,hh,by simp,.inr (.inl ⟨rfl,h⟩)⟩
 ·rename_i id t ps a b hh;exact⟨.done,_,t,ps,a,b,hh,by simp,.inr (.inr ⟨id,rfl,h⟩)⟩
 ·exact h.elim
theorem khr (s:SS) (A B:SB):alloc B (alloc A s)={ s with h:=s.h++[A,B] }:=by simp[alloc]
theorem kaP {f:XO} {ps:List Nat} {asg body:XC} {K:XE→SS→Prop} {g:Nat} {cs:List SV} (hf:ev s f=.fn g cs) (hrd:s.rd=none) (hsc:scS s True) (hsc2:scS { s with h:=s.h++[.defd] } True) (hnr:ka4 s.h.length s.r=false)
  (h:CallX P g (.yield (s.h.length+1)::cs) (qA ps asg body s) (fun _ s'=>kiS (s.h.length+1) s' K) K):WX P (.range f ps asg body) s K:=by
 refine⟨fun c hc σ w hok=>?_⟩
 have hcl:∃f' ps' ca cb,c=.rangeFunc f' ps' ca cb∧cO f'=some f∧kt P ca=some asg∧kt P cb=some body∧ps'.toList=ps:=by
  cases c
  case rangeFunc f' ps' ca cb=>
   simp only[kt] at hc;split at hc
   ·rename_i f1 h1;split at hc
    ·rename_i a1 b1 h2 h3;simp only[Option.some.injEq,XC.range.injEq] at hc;obtain⟨rfl,rfl,rfl,rfl⟩:=hc;exact⟨f',ps',ca,cb,rfl,h1,h2,h3,rfl⟩
    ·cases hc
   ·cases hc
  case region id ops d=>cases d<;>simp only[kt] at hc<;>(rcases kaO hc with hc|hc)<;>first|(cases hc;done)|((repeat' split at hc)<;>simp[kg5,kfj] at hc)
  all_goals simp only[kt] at hc
  all_goals first|(cases hc;done)|((repeat' split at hc)<;>simp at hc;done)
 obtain⟨f',ps',ca,cb,rfl,hf',hca,hcb,hps⟩:=hcl;have hr0:rOf σ s=none:=by simp[rOf,hrd]
 rw[hr0];refine wpIn_rangeFunc (fun fn hfn=>?_)
 -- the two blocks
 obtain⟨k1,k2,k3⟩:=hok.new (B:=.defd) (p:=some (w.heap.size,0)) (w':=w.alloc (.deferred (some []))) hsc (Grew.alloc w _) (fun q hq=>by cases hq;simp[World.size_alloc]) ⟨w.heap.size,rfl,World.alloc_heap_new w _⟩;generalize hσ1:more σ s.h.length (some (w.heap.size,0))=σ1 at *;generalize hw1:w.alloc (.deferred (some []))=w1 at *;have hsz1:w1.heap.size=w.heap.size+1:=by rw[←hw1];simp[World.size_alloc]
 have hrec:holds P (more σ1 (alloc .defd s).h.length (some (w1.heap.size,0))) (some (w1.heap.size,0)) (w1.alloc (.loop { state:=.ready,pending:=none,fn:=fn,tmps:=(act σ s).tmps,params:=ps',assign:=ca,body:=cb,defers:=w.heap.size }))
   (.loop .ready none s.t ps asg body):=by
  refine⟨w1.heap.size,fn,ca,cb,w.heap.size,rfl,hca,hcb,hfn,?_⟩
  rw[World.alloc_heap_new];have ht:denL (more σ1 (alloc .defd s).h.length (some (w1.heap.size,0))) s.t=denL σ s.t:=by
   refine sc_denL (n:=s.h.length) (fun i hi=>?_) s.t (klw hsc)
   rw[jy (by simp[alloc];omega),←hσ1,jy hi]
  simp only[ht,lst,Option.bind_none,act,←hps]
 obtain⟨m1,m2,m3⟩:=k1.new (B:=.loop .ready none s.t ps asg body) (p:=some (w1.heap.size,0)) (by simpa [alloc] using hsc2) (Grew.alloc w1 _) (fun q hq=>by cases hq;simp[World.size_alloc]) hrec;rw[khr] at m1 m2 m3;generalize hσ2:more σ1 (alloc .defd s).h.length (some (w1.heap.size,0))=σ2 at *;generalize hw2:w1.alloc (.loop { state:=.ready,pending:=none,fn:=fn,tmps:=(act σ s).tmps,params:=ps',assign:=ca,body:=cb,defers:=w.heap.size })=w2 at *;have hl1:(alloc .defd s).h.length=s.h.length+1:=by simp[alloc]
 have hσd:σ2 s.h.length=some (w.heap.size,0):=by rw[←hσ2,jy (by omega),←hσ1,qL]
 have hσl:σ2 (s.h.length+1)=some (w.heap.size+1,0):=by rw[←hσ2,←hl1,qL,hsz1]
 have hokE:Ok P σ2 (qA ps asg body s) w2:=by
  refine⟨⟨m1.lt,m1.ne,m1.blk,fun l hl=>?_,fun l hl=>by simp only[qA] at hl;rw[hrd] at hl;cases hl⟩,⟨m1.cold.there,m1.cold.apart⟩⟩
  rcases List.mem_cons.1 hl with rfl|hl
  ·refine⟨fun hm=>?_,by simp[qA]⟩
   have:=memN_iff.2 hm;simp only[qA] at this;rw[hnr] at this;cases this
  ·exact m1.marks l hl
 have hstE:Step σ s w σ2 (qA ps asg body s) w2:=by
  have:=k2.trans m2;exact⟨this.size,this.os,this.tape,this.output,this.far,this.len,this.names,this.red,this.own,this.rd⟩
 have hactE:act σ2 (qA ps asg body s)={ (act σ s) with defers:=[{ target:=.collected w.heap.size,args:=#[] }]++(act σ s).defers }:=by
  have h0:=m3.trans k3;have ht:(act σ2 { s with h:=s.h++[.defd,.loop .ready none s.t ps asg body] }).tmps=(act σ s).tmps:=by rw[h0]
  have hd:(act σ2 { s with h:=s.h++[.defd,.loop .ready none s.t ps asg body] }).defers=(act σ s).defers:=by rw[h0]
  have e1:(act σ2 (qA ps asg body s)).tmps=(act σ s).tmps:=ht;have e2:(act σ2 (qA ps asg body s)).defers=mark σ2 s.h.length::(act σ s).defers:=by rw[←hd];rfl
  have e3:mark σ2 s.h.length={ target:=.collected w.heap.size,args:=#[] }:=by simp[mark,hσd]
  cases hE:act σ2 (qA ps asg body s) with
  |mk tm df=>rw[hE] at e1 e2;simp only at e1 e2;rw[e1,e2,e3];rfl
 have hcs:denL σ cs=denL σ2 cs:=by
  have hsv:scV s.h.length (ev s f)=true:=knJ hf' hsc;rw[hf] at hsv;refine(sc_denL (n:=s.h.length) (fun i hi=>?_) cs (by simpa [scV] using hsv)).symm
  rw[←hσ2,jy (by omega),←hσ1,jy hi]
 have hevf:(act σ s).eval f'=.func (.func g) #[] (denL σ cs).toArray:=by rw[ke hf',hf];rfl
 have hargs:(denL σ2 (.yield (s.h.length+1)::cs)).toArray=#[.func (.yield (w.heap.size+1)) #[] #[]]++(denL σ cs).toArray:=by
  simp[denL,den,hσl,hcs]
 refine⟨w.heap.size+1,[{ target:=.collected w.heap.size,args:=#[] }],w2,{ target:=.fn (.func g) (denL σ cs).toArray,args:=#[.func (.yield (w.heap.size+1)) #[] #[]] },w2,g,(denL σ2 (.yield (s.h.length+1)::cs)).toArray,w2,?_,?_,fun f' hf'=>?_,?_,(fun hd=>by cases hd),?_⟩
 ·rw[←hw2,←hw1];exact run_enterLoop_outer fn _ ps' ca cb
 ·have hcst:(act σ s).eval (.const (.func (.yield (w.heap.size+1)) #[] #[]))=.func (.yield (w.heap.size+1)) #[] #[]:=rfl;simp only[resolve,rangeCall,hevf,Deferred.ofValue,List.map_toArray,List.map_cons,List.map_nil,hcst];simp
 ·simp only[Target.leads,Option.some.injEq] at hf';rw[←hf'];exact kb6 h.go w
 ·rw[hargs];simp[invoke,h.go]
 ·have hc:=h.out σ2 w2 hokE;have hrE:rOf σ2 (qA ps asg body s)=none:=by rw[qP hok hokE hstE,hr0]
  rw[hrE] at hc;refine hc.mono ?_
  rintro e w3 ⟨σ3,s3,q1,q2,q3,q4⟩;cases e with
  |panicked ch=>
   obtain⟨v,hv,rfl⟩:=q4;exact⟨.panic v,σ3,s3,hv,q1,hstE.trans q2,rfl,by rw[q3,hactE]⟩
  |outgrown=>exact q4.elim
  | returned v=>
   obtain⟨v',hK,rfl⟩:=q4;obtain⟨hnl,st,p,t,ps3,a3,b3,hl3,hst3,hK⟩:=khq hK;obtain⟨b,fn3,ca3,cb3,d3,hσ3,_,_,_,hh3⟩:=q1.blk _ _ hl3;have hσ3':σ3 (s.h.length+1)=some (w.heap.size+1,0):=by rw[q2.names _ (by simp[qA]) hnl,hσl]
   rw[hσ3'] at hσ3;obtain rfl:w.heap.size+1=b:=by simpa using hσ3
   refine⟨p.bind jump,_,run_endLoop hh3 (by cases st<;>simp[lst] at *),?_⟩
   have hndl:∀l,l∈s3.d→l∈s3.d∧l≠s.h.length+1:=fun l hl=>⟨hl,fun e=>by
    have:=(q1.marks l hl).2;rw[e,hl3] at this;cases this⟩
   have hrd3:s3.rd=none:=by rw[(hstE.trans q2).rd,hrd]
   obtain⟨f1,f2⟩:=q1.freed (w':=w3.putObj (w.heap.size+1) (.loop { state:=.exhausted,pending:=p.bind jump,fn:=fn3,tmps:=(denL σ3 t).toArray,params:=ps3.toArray,assign:=ca3,body:=cb3,defers:=d3 })) (ds:=s3.d) hl3 rfl hσ3' hndl (by rw[hrd3];simp)
    (fun k hk=>World.putObj_heap_other hk) World.putObj_size rfl rfl rfl
   have hfin:=(hstE.trans q2).trans f2;have hact:act σ3 { s3 with h:=s3.h.set (s.h.length+1) .free }={ (act σ s) with defers:=[{ target:=.collected w.heap.size,args:=#[] }]++(act σ s).defers }:=q3.trans hactE;rcases hK with⟨rfl,hK⟩|⟨rfl,hK⟩|⟨id,rfl,hK⟩
   ·exact⟨_,σ3,_,hK,f1,hfin,hact.symm⟩
   ·exact wpIn_ret ⟨_,σ3,_,hK,f1,hfin,hact.symm⟩
   ·exact wpIn_exit ⟨.exit id,σ3,_,hK,f1,hfin,rfl,hact.symm⟩
end
end Go.Sx
namespace Go.Sx
open Go
structure Words (O:Ops):Prop where
 b:O.b=bV
 c:O.c=cV
 w:O.w=fun k x=>k.wrap x
 toN:O.toN=fun n=>n.toNat
 ofN:O.ofN=fun(n:Nat)=>(n:Int)
 addN:O.addN=fun a b=>a+b
 subN:O.subN=fun a b=>a-b
 maxI:O.maxI=fun x y=>if y>x then y else x
 minI:O.minI=fun x y=>if y<x then y else x
 cutN:O.cutN=fun i l m=>if m=l then i else i+l
 gd:O.gd=fun l n=>l.getD n 0
 st:O.st=fun l n v=>l.set n v
 ln:O.ln=fun l=>l.length
 rep:O.rep=fun n v=>List.replicate n v
 sub:O.sub=fun l i n=>(l.drop i).take n
 onto:O.onto=fun l n xs=>l.take n++xs
 splice:O.splice=fun l i xs=>l.take i++xs++l.drop (i+xs.length)
 strEq:O.strEq=fun a b=>a.map (fun n=>UInt8.ofNat n.toNat)==b.map (fun n=>UInt8.ofNat n.toNat)
 byteV:O.byteV=fun n=>((UInt8.ofNat n.toNat).toNat:Int)
 notB:O.notB=fun b=>!b
 eqB:O.eqB=fun a b=>a==b
theorem words:Words std:=⟨rfl,rfl,rfl,rfl,rfl,rfl,rfl,rfl,rfl,rfl,rfl,rfl,rfl,rfl,rfl,rfl,rfl,rfl,rfl,rfl,rfl⟩
theorem walk {P:Program} {x:XC} {s:SS} {K:XE→SS→Prop} (h:∀vb vc vw vtoN vofN vaddN vsubN vmaxI vminI vcutN vgd vst vln vrep vsub vonto vsplice vstrEq vbyteV vnotB veqB,
  Words ⟨vb,vc,vw,vtoN,vofN,vaddN,vsubN,vmaxI,vminI,vcutN,vgd,vst,vln,vrep,vsub,vonto,vsplice,vstrEq,vbyteV,vnotB,veqB⟩ →
  ex ⟨vb,vc,vw,vtoN,vofN,vaddN,vsubN,vmaxI,vminI,vcutN,vgd,vst,vln,vrep,vsub,vonto,vsplice,vstrEq,vbyteV,vnotB,veqB⟩ P x s K):ex std P x s K:=
 h _ _ _ _ _ _ _ _ _ _ _ _ _ _ _ _ _ _ _ _ _ words
theorem Words.eq {O:Ops} (h:Words O):O=std:=by
 cases O
 obtain⟨h1,h2,h3,h4,h5,h6,h7,h8,h9,h10,h11,h12,h13,h14,h15,h16,h17,h18,h19,h20,h21⟩:=h;simp only at *
 subst h1 h2 h3 h4 h5 h6 h7 h8 h9 h10 h11 h12 h13 h14 h15 h16 h17 h18 h19 h20 h21;rfl
theorem kat {O:Ops} {P:Program} {f:Nat} {x:XC} {n:Nat} {rs:List Nat} {args:List SV} {s:SS} {K:SV→SS→Prop} {X:XE→SS→Prop} (hw:Words O) (hm:P.follows .mixedOrders=true) (hf:FnOk P f x n rs)
  (hsc:scL s.h.length s.t=true) (h:ex O P x { t:=args++List.replicate (n-args.length) .undef,h:=s.h,r:=[],d:=[],rd:=none } (fin rs (qE s K))):CallX P f args s K X:=by
 rw[hw.eq] at h;exact khf hsc (kbf hm hf h)
theorem kaQ {O:Ops} {P:Program} {s:SS} {l:Nat} {args:List SV} {K:SV→SS→Prop} {X:XE→SS→Prop} (hw:Words O) (hm:P.follows .mixedOrders=true) (hsc:scL s.h.length s.t=true)
  (h:ready s.h l (fun t ps asg body=>args.length=ps.length∧ex O P asg (qR l t ps args s) (fun e s1=>match e with
   |.normal=>ready s1.h l (fun t1 ps1 a1 b1=>ex O P body { s1 with h:=s1.h.set l (.loop .busy none t1 ps1 a1 b1) } (fun e2 s2=>km4 l e2 s2 (fun v H=>qE s K (.bool v) H s2.r) (fun v=>qE s (fun v s'=>X (.panic v) s') v s2.h s2.r)))
   |_=>False))):YieldX P l args s K X:=by
 rw[hw.eq] at h;exact kiR hm hsc h
theorem kfo {O:Ops} {P:Program} {s:SS} {b:XC} {K:XE→SS→Prop} (hw:Words O) (hm:P.follows .mixedOrders=true) (J:Nat→SS→Prop) (h0:Cv P s.h.length s (fun s'=>∃n,J n s'))
  (round:∀n s',J n s'→ex O P b s' (fun e s''=>match e with
   |.normal=>Cv P s.h.length s'' (fun s3=>∃m,m<n∧J m s3)
   |.exit id=>K (.exit id) s''
   |.ret=>K .ret s''
   |.panic v=>K (.panic v) s'')):WX P (.loop b) s K:=by
 rw[hw.eq] at round;exact kkv hm J h0 round
theorem Con.mono {P:Program} {f:Nat} {args:List SV} {H:List SB} {kP Post':SV→List SB→List Nat→Prop} (h:Con P f args H kP) (hP:∀v H R,kP v H R→Post' v H R):Con P f args H Post':=
 ⟨h.go,fun σ w hok=>(h.out σ w hok).mono fun _ _ ⟨σ',v,H',R,k1,k2⟩=>⟨σ',v,H',R,hP _ _ _ k1,k2⟩⟩
theorem kV {P:Program} {f:Nat} {args:List SV} {H:List SB} {kP:SV→List SB→List Nat→Prop} (m:Nat) (hm:H.length≤m) (h:Con P f args H (fun v H' R=>m≤H'.length∧kP v (H'.take m) R)):Con P f args H kP:=by
 refine⟨h.go,fun σ w hok=>(h.out σ w hok).mono ?_⟩
 rintro e w' ⟨σ',v,H',R,⟨hl,k1⟩,k2,k3,k4⟩;have hget:∀i B,(H'.take m)[i]?=some B→H'[i]?=some B:=fun i B hB=>by
  rw[List.getElem?_take] at hB;split at hB
  ·exact hB
  ·cases hB
 refine⟨σ',v,H'.take m,R,k1,k2,⟨⟨fun i p hi hp=>k3.lt i p (by simp at hi;simp;omega) hp,fun i j B C p q hij hB hC=>k3.ne i j B C p q hij (hget _ _ hB) (hget _ _ hC),fun i B hB=>k3.blk i B (hget _ _ hB),(fun l hl=>by cases hl),(fun l hl=>by cases hl)⟩,Cold.nil rfl⟩,
  ⟨k4.size,k4.os,k4.tape,k4.output,k4.far,by simp;omega,k4.names,k4.red,fun i B p hB=>k4.own i B p (hget _ _ hB),rfl⟩⟩
def kcC:List SB→List SB
 |[]=>[]
 |B::l=>q7 B::kcC l
theorem kbk:∀(l:List SB) (i:Nat),(kcC l)[i]?=(l[i]?).map q7
 |[],i=>by simp[kcC]
 |B::l,0=>by simp[kcC]
 |B::l,i+1=>by simp[kcC,kbk l i]
theorem kau:∀(l:List SB),(kcC l).length=l.length
 |[]=>rfl
 |B::l=>by simp[kcC,kau l]
theorem kw {P:Program} {f:Nat} {args:List SV} {H:List SB} {kP:SV→List SB→List Nat→Prop} (h:Con P f args H (fun v H' R=>kP (gen v) (kcC H') R)):Con P f args H kP:=by
 refine⟨h.go,fun σ w hok=>(h.out σ w hok).mono ?_⟩
 rintro e w' ⟨σ',v,H',R,k1,k2,k3,k4⟩;have hget:∀i B,(kcC H')[i]?=some B→∃C,H'[i]?=some C∧B=q7 C:=fun i B hB=>by
  rw[kbk,Option.map_eq_some_iff] at hB;obtain⟨C,h1,h2⟩:=hB;exact⟨C,h1,h2.symm⟩
 refine⟨σ',gen v,kcC H',R,k1,by rw[kdW];exact k2,⟨⟨fun i p hi hp=>k3.lt i p (by simpa [kau] using hi) hp,fun i j B C p q hij hB hC ho=>?_,fun i B hB=>?_,(fun l hl=>by cases hl),(fun l hl=>by cases hl)⟩,Cold.nil rfl⟩,
  ⟨k4.size,k4.os,k4.tape,k4.output,k4.far,by simpa [kau] using k4.len,k4.names,k4.red,fun i B p hB hoB=>?_,rfl⟩⟩
 ·obtain⟨B',hB',rfl⟩:=hget i B hB;obtain⟨C',hC',rfl⟩:=hget j C hC;rw[jF,jF] at ho;exact k3.ne i j B' C' p q hij hB' hC' ho
 ·obtain⟨B',hB',rfl⟩:=hget i B hB;exact holds_gen.2 (k3.blk i B' hB')
 ·obtain⟨B',hB',rfl⟩:=hget i B hB;rw[jF] at hoB;exact k4.own i B' p hB' hoB
theorem Cv.gen {P:Program} {s:SS} {S:SS→Prop} {n0:Nat} (h:Cv P n0 { s with t:=genL s.t,h:=kcC s.h } S):Cv P n0 s S:=by
 have hget:∀i B,(kcC s.h)[i]?=some B→∃C,s.h[i]?=some C∧B=q7 C:=fun i B hB=>by
  rw[kbk,Option.map_eq_some_iff] at hB;obtain⟨C,h1,h2⟩:=hB;exact⟨C,h1,h2.symm⟩
 refine⟨fun σ0 s0 w0 σ w hn hok hst=>?_⟩
 obtain⟨σ2,s2,k1,k2,k3,k4,k5⟩:=h.out σ0 s0 w0 σ w hn
  ⟨⟨fun i p hi hp=>hok.lt i p (by simpa [kau] using hi) hp,fun i j B C p q hij hB hC ho=>by
   obtain⟨B',hB',rfl⟩:=hget i B hB;obtain⟨C',hC',rfl⟩:=hget j C hC;rw[jF,jF] at ho;exact hok.ne i j B' C' p q hij hB' hC' ho,fun i B hB=>by
   obtain⟨B',hB',rfl⟩:=hget i B hB;exact holds_gen.2 (hok.blk i B' hB'),fun l hl=>⟨(hok.marks l hl).1,by rw[kbk,(hok.marks l hl).2];rfl⟩,fun l hl=>by
   obtain⟨h1,B,h2,h3⟩:=hok.rnd l hl;exact⟨h1,q7 B,by rw[kbk,h2];rfl,by rw[kbg];exact h3⟩⟩,⟨hok.cold.there,fun i B p hB ho=>by
   obtain⟨B',hB',rfl⟩:=hget i B hB;rw[jF] at ho;exact hok.cold.apart i B' p hB' ho⟩⟩
  ⟨hst.size,hst.os,hst.tape,hst.output,hst.far,by simpa [kau] using hst.len,hst.names,hst.red,fun i B p hB hoB=>by
   obtain⟨B',hB',rfl⟩:=hget i B hB;rw[jF] at hoB;exact hst.own i B' p hB' hoB,hst.rd⟩
 refine⟨σ2,s2,k1,k2,k3,k4.trans ?_,fun hl=>k5 (by simpa [kau] using hl)⟩
 unfold act;simp only[den_genL]
end Go.Sx
namespace Go.Sx
open Go
theorem wrap_i64 {x:Int} (h0 : -9223372036854775808≤x) (h1:x<9223372036854775808):IntKind.i64.wrap x=x:=by
 simp[IntKind.wrap,IntKind.bits,IntKind.signed];omega
theorem wrap_u64 {x:Int} (h0:0≤x) (h1:x<18446744073709551616):IntKind.u64.wrap x=x:=by
 simp[IntKind.wrap,IntKind.bits,IntKind.signed];omega
theorem wrap_u8 {x:Int} (h0:0≤x) (h1:x<256):IntKind.u8.wrap x=x:=by
 simp[IntKind.wrap,IntKind.bits,IntKind.signed];omega
theorem kh {x y:Int} (h0 : -9223372036854775808≤x+y) (h1:x+y<9223372036854775808):bV .add .i64 x y=x+y:=wrap_i64 h0 h1
theorem ku {x y:Int} (h0 : -9223372036854775808≤x-y) (h1:x-y<9223372036854775808):bV .sub .i64 x y=x-y:=wrap_i64 h0 h1
theorem kju {x y:Int} (h0 : -9223372036854775808≤x*y) (h1:x*y<9223372036854775808):bV .mul .i64 x y=x*y:=wrap_i64 h0 h1
theorem kcD {x y:Int} (h0:0≤x):bV .rem .i64 x y=x % y:=by
 show x.tmod y=x % y
 exact Int.tmod_eq_emod_of_nonneg h0
theorem j6 {x y:Int} (h0:0≤x) (h1:x<9223372036854775808) (hy:0≤y):bV .quo .i64 x y=x / y:=by
 show IntKind.i64.wrap (x.tdiv y)=x / y
 rw[Int.tdiv_eq_ediv_of_nonneg h0];have:=Int.ediv_nonneg h0 hy;have:=Int.ediv_le_self y h0;exact wrap_i64 (by omega) (by omega)
end Go.Sx
namespace Go.Sx
open Go
def kjv:List Nat→List SV→List SV
 |[],l=>l
 |j::js,l=>kjv js (l.set j (gen (l.getD j .undef)))
def ka3:List Nat→List SB→List SB
 |[],l=>l
 |j::js,l=>ka3 js (match l[j]? with
  |some B=>l.set j (q7 B)
  |none=>l)
theorem kfp (σ:Names):∀(js:List Nat) (l:List SV),denL σ (kjv js l)=denL σ l
 |[],l=>rfl
 | j::js,l=>by
  rw[kjv,kfp σ js];cases h:l[j]? with
  |none=>
   have:l.length≤j:=List.getElem?_eq_none_iff.1 h;rw[List.set_eq_of_length_le this]
  |some v=>
   refine kez h ?_
   rw[List.getD_eq_getElem?_getD,h];exact kdW σ v
theorem kfq:∀(js:List Nat) (l:List SB) (i:Nat) (B:SB),(ka3 js l)[i]?=some B→∃C,l[i]?=some C∧(B=C∨q7 B=q7 C)
 |[],l,i,B,h=>⟨B,h,.inl rfl⟩
 | j :: js,l,i,B,h=>by
  rw[ka3] at h;obtain⟨C,h1,h2⟩:=kfq js _ i B h;cases hj:l[j]? with
  |none=>rw[hj] at h1;exact⟨C,h1,h2⟩
  | some D=>
   rw[hj] at h1;simp only at h1
   rw[List.getElem?_set] at h1;split at h1
   ·rename_i e;subst e;split at h1
    ·cases h1
     refine⟨D,hj,.inr ?_⟩
     rcases h2 with rfl|h2
     ·exact genB_genB D
     ·rw[h2];exact genB_genB D
    ·cases h1
   ·exact⟨C,h1,h2⟩
where
 genB_genB (D:SB):q7 (q7 D)=q7 D:=by
  cases D<;>simp only[q7,genL_genL]
 gen_gen:∀(v:SV),gen (gen v)=gen v
  |.lit _ _=>rfl
  |.fn f cs=>by simp only[gen,genL_genL cs]
  |.iface t v=>by simp only[gen,gen_gen v]
  |.agg cs=>by simp only[gen,genL_genL cs]
  |.tup cs=>by simp only[gen,genL_genL cs]
  |.undef=>rfl
  |.val _=>rfl
  |.bool _=>rfl
  |.int _ _=>rfl
  |.str _=>rfl
  |.ptr _ _ _ _=>rfl
  |.slice _ _ _ _ _=>rfl
  |.yield _=>rfl
 genL_genL:∀(l:List SV),genL (genL l)=genL l
  |[]=>rfl
  |v::l=>by simp only[genL,gen_gen v,genL_genL l]
theorem kav:∀(js:List Nat) (l:List SB),(ka3 js l).length=l.length
 |[],l=>rfl
 |j::js,l=>by rw[ka3,kav js];split<;>simp
theorem qi {js:List Nat} {l:List SB} {i:Nat} {B:SB} (h:(ka3 js l)[i]?=some B):∃C,l[i]?=some C∧own B=own C∧jh B=jh C∧∀P σ p w,holds P σ p w B↔holds P σ p w C:=by
 obtain⟨C,h1,h2⟩:=kfq js l i B h;refine⟨C,h1,?_⟩
 rcases h2 with rfl|h2
 ·exact⟨rfl,rfl,fun _ _ _ _=>Iff.rfl⟩
 ·refine⟨by rw[←jF B,h2,jF],by rw[←kbg B,h2,kbg],fun P σ p w=>?_⟩
  rw[←holds_gen (B:=B),h2,holds_gen]
theorem kiT {js:List Nat} {l:List SB} {i:Nat} (h:l[i]?=some .defd):(ka3 js l)[i]?=some .defd:=by
 induction js generalizing l with
 |nil=>exact h
 | cons j js ih=>
  rw[ka3];refine ih ?_
  cases hj:l[j]? with
  |none=>exact h
  | some D=>
   simp only
   rw[List.getElem?_set];split
   ·rename_i e;subst e
    rw[h] at hj;cases hj
    rw[if_pos (List.getElem?_eq_some_iff.1 h).1];rfl
   ·exact h
theorem kiU {js:List Nat} {l:List SB} {i:Nat} {B:SB} (h:l[i]?=some B) (hB:jh B=true):∃C,(ka3 js l)[i]?=some C∧jh C=true:=by
 have hi:i<(ka3 js l).length:=by rw[kav];exact(List.getElem?_eq_some_iff.1 h).1
 obtain⟨C,hC⟩:∃C,(ka3 js l)[i]?=some C:=⟨_,List.getElem?_eq_getElem hi⟩;obtain⟨D,h1,_,h2,_⟩:=qi hC;rw[h] at h1;cases h1
 exact⟨C,hC,by rw[h2];exact hB⟩
theorem Cv.genAt {P:Program} {s:SS} {S:SS→Prop} {n0:Nat} (ts hs:List Nat) (h:Cv P n0 { s with t:=kjv ts s.t,h:=ka3 hs s.h } S):Cv P n0 s S:=by
 refine⟨fun σ0 s0 w0 σ w hn hok hst=>?_⟩
 obtain⟨σ2,s2,k1,k2,k3,k4,k5⟩:=h.out σ0 s0 w0 σ w hn
  ⟨⟨fun i p hi hp=>hok.lt i p (by simpa [kav] using hi) hp,fun i j B C p q hij hB hC ho=>by
   obtain⟨B',hB',e1,_⟩:=qi hB;obtain⟨C',hC',e2,_⟩:=qi hC;rw[e1,e2] at ho;exact hok.ne i j B' C' p q hij hB' hC' ho,fun i B hB=>by
   obtain⟨B',hB',_,_,e3⟩:=qi hB;exact(e3 P σ (σ i) w).2 (hok.blk i B' hB'),fun l hl=>⟨(hok.marks l hl).1,kiT (hok.marks l hl).2⟩,fun l hl=>by
   obtain⟨h1,B,h2,h3⟩:=hok.rnd l hl;obtain⟨C,h4,h5⟩:=kiU h2 h3;exact⟨h1,C,h4,h5⟩⟩,⟨hok.cold.there,fun i B p hB ho=>by
   obtain⟨B',hB',e1,_⟩:=qi hB;rw[e1] at ho;exact hok.cold.apart i B' p hB' ho⟩⟩
  ⟨hst.size,hst.os,hst.tape,hst.output,hst.far,by simpa [kav] using hst.len,hst.names,hst.red,fun i B p hB hoB=>by
   obtain⟨B',hB',e1,_⟩:=qi hB;rw[e1] at hoB;exact hst.own i B' p hB' hoB,hst.rd⟩
 refine⟨σ2,s2,k1,k2,k3,k4.trans ?_,fun hl=>k5 (by simpa [kav] using hl)⟩
 unfold act;simp only[kfp]
theorem Cv.fold {P:Program} {s:SS} {S:SS→Prop} {n0:Nat} (D:List Nat) (m:Nat) (R:List Nat) (hm:n0≤m) (hle:m≤s.h.length) (hR:kku s.r R=true) (hd:kbW R (s.h.take m) s.d (kbX R (s.h.take m) s.rd True))
  (h:∀js,S { t:=kkt D js 0 s.t,h:=s.h.take m,r:=R,d:=s.d,rd:=s.rd,x:=s.x,c:=s.c }):Cv P n0 s S:=by
 refine Cv.hav D fun js=>?_
 have hd':∀R',(∀i,i∈R'→i∈R)→kbW R' (s.h.take m) s.d (kbX R' (s.h.take m) s.rd True):=fun R' hR'=>by
  obtain⟨hr,h1⟩:=jE hd;obtain⟨_,h2⟩:=jU hr;have hr':kbX R' (s.h.take m) s.rd True:=by
   unfold kbX;cases hrd:s.rd with
   |none=>trivial
   |some l=>
    obtain⟨h3,B,h4,h5⟩:=h2 l hrd;simp only
    rw[if_neg (fun hm=>h3 (hR' l (memN_iff.1 hm))),h4];cases B<;>simp[jh] at h5 ⊢
  clear hr h2;generalize s.d=ds at h1;induction ds with
  |nil=>exact hr'
  |cons l ds ih=>
   obtain⟨h3,h4⟩:=h1 l (by simp);simp only[kbW];rw[if_neg (fun hm=>h3 (hR' l (memN_iff.1 hm))),h4];exact ih (fun l hl=>h1 l (List.mem_cons_of_mem _ hl))
 refine Cv.cut m hm (by simpa [Sx.hav] using hle) (hd' [] (fun i hi=>by cases hi)) ?_
 refine Cv.red R hR hd ?_
 exact Cv.here (h js)
def knM:List (Nat×SV)→List SV→List SV
 |[],l=>l
 |(j,v)::r,l=>knM r (l.set j v)
def knN:List (Nat×SB)→List SB→List SB
 |[],l=>l
 |(j,v)::r,l=>knN r (l.set j v)
def fam (D:List Nat) (R:List Nat) (s:SS) (js:Nat→Value) (T:List (Nat×SV)) (B:List (Nat×SB)):SS:=
 { t:=kkt D js 0 (knM T s.t),h:=knN B s.h,r:=R,d:=s.d,rd:=s.rd,x:=s.x,c:=s.c }
theorem kv {O:Ops} {P:Program} {s:SS} {b:XC} {K:XE→SS→Prop} {α:Type} (D:List Nat) (R:List Nat) (T:α→List (Nat×SV)) (B:α→List (Nat×SB)) (I:α→Prop) (μ:α→Nat) (hw:Words O) (hm:P.follows .mixedOrders=true)
  (h0:Cv P s.h.length s (fun s'=>∃a,I a∧∃js,s'=fam D R s js (T a) (B a)))
  (round:∀a js,I a→ex O P b (fam D R s js (T a) (B a)) (kix (fun s''=>Cv P s.h.length s'' (fun s3=>∃a',(I a'∧μ a'<μ a)∧∃js,s3=fam D R s js (T a') (B a'))) K)):WX P (.loop b) s K:=by
 refine kfo hw hm (fun n s'=>∃a,(I a∧μ a=n)∧∃js,s'=fam D R s js (T a) (B a)) (h0.mono fun s' ⟨a,h1,h2⟩=>⟨_,a,⟨h1,rfl⟩,h2⟩) ?_
 rintro n s' ⟨a,⟨h1,rfl⟩,js,rfl⟩;have:=round a js h1;have e:kix (fun s''=>Cv P s.h.length s'' (fun s3=>∃a',(I a'∧μ a'<μ a)∧∃js,s3=fam D R s js (T a') (B a'))) K=(fun(e:XE) (s'':SS)=>match e with
   |.normal=>Cv P s.h.length s'' (fun s3=>∃m,m<μ a∧∃a',(I a'∧μ a'=m)∧∃js,s3=fam D R s js (T a') (B a'))
   |.exit id=>K (.exit id) s''
   |.ret=>K .ret s''
   |.panic v=>K (.panic v) s''):=by
  funext e s''
  cases e with
  |normal=>
   refine propext ⟨fun h=>h.mono ?_,fun h=>h.mono ?_⟩
   ·rintro s3 ⟨a',⟨h1,h2⟩,h3⟩;exact⟨_,h2,a',⟨h1,rfl⟩,h3⟩
   ·rintro s3 ⟨m,hm,a',⟨h1,rfl⟩,h3⟩;exact⟨a',⟨h1,hm⟩,h3⟩
  |_=>rfl
 rw[e] at this;exact this
theorem jJ {P:Program} {f:Nat} {args:List SV} {H:List SB} {kP:SV→List SB→List Nat→Prop} (R0:List Nat) (h:Con P f args H (fun v H' R=>kku R R0=true∧kP v H' R0)):Con P f args H kP:=by
 refine⟨h.go,fun σ w hok=>(h.out σ w hok).mono ?_⟩
 rintro e w' ⟨σ',v,H',R,⟨hr,k1⟩,k2,k3,k4⟩;exact⟨σ',v,H',R0,k1,k2,⟨⟨k3.lt,k3.ne,k3.blk,(fun l hl=>by cases hl),(fun l hl=>by cases hl)⟩,Cold.nil rfl⟩,
  ⟨k4.size,k4.os,k4.tape,k4.output,k4.far,k4.len,fun i hi hr'=>k4.names i hi (fun h=>hr' (kbE hr i h)),(fun i hi=>by cases hi),k4.own,rfl⟩⟩

theorem koC {P:Program} {x:XC} {s:SS} {K:XE→SS→Prop} (h:∀vb vc vw vtoN vofN vaddN vsubN vmaxI vminI vcutN vgd vst vln vrep vsub vonto vsplice vstrEq vbyteV vnotB veqB,
  Words ⟨vb,vc,vw,vtoN,vofN,vaddN,vsubN,vmaxI,vminI,vcutN,vgd,vst,vln,vrep,vsub,vonto,vsplice,vstrEq,vbyteV,vnotB,veqB⟩ →
  vb=bV→vc=cV→(vw=fun k x=>k.wrap x)→(vtoN=fun n=>n.toNat)→(vofN=fun(n:Nat)=>(n:Int))→(vaddN=fun a b=>a+b)→(vsubN=fun a b=>a-b)→(vmaxI=fun x y=>if y>x then y else x) →
  (vminI=fun x y=>if y<x then y else x)→(vcutN=fun i l m=>if m=l then i else i+l)→(vgd=fun l n=>l.getD n 0)→(vst=fun l n v=>l.set n v)→(vln=fun l=>l.length)→(vrep=fun n v=>List.replicate n v) →
  (vsub=fun l i n=>(l.drop i).take n)→(vonto=fun l n xs=>l.take n++xs)→(vsplice=fun l i xs=>l.take i++xs++l.drop (i+xs.length)) →
  (vstrEq=fun a b=>a.map (fun n=>UInt8.ofNat n.toNat)==b.map (fun n=>UInt8.ofNat n.toNat))→(vbyteV=fun n=>((UInt8.ofNat n.toNat).toNat:Int))→(vnotB=fun b=>!b)→(veqB=fun a b=>a==b) →
  ex ⟨vb,vc,vw,vtoN,vofN,vaddN,vsubN,vmaxI,vminI,vcutN,vgd,vst,vln,vrep,vsub,vonto,vsplice,vstrEq,vbyteV,vnotB,veqB⟩ P x s K):ex std P x s K:=
 h _ _ _ _ _ _ _ _ _ _ _ _ _ _ _ _ _ _ _ _ _ words rfl rfl rfl rfl rfl rfl rfl rfl rfl rfl rfl rfl rfl rfl rfl rfl rfl rfl rfl rfl rfl

theorem kl {P:Program} {f:Nat} {x:XC} {n:Nat} {rs:List Nat} {args:List SV} {H:List SB} {kP:SV→List SB→List Nat→Prop} (hm:P.follows .mixedOrders=true) (hf:FnOk P f x n rs)
  (h:∀vb vc vw vtoN vofN vaddN vsubN vmaxI vminI vcutN vgd vst vln vrep vsub vonto vsplice vstrEq vbyteV vnotB veqB,
  Words ⟨vb,vc,vw,vtoN,vofN,vaddN,vsubN,vmaxI,vminI,vcutN,vgd,vst,vln,vrep,vsub,vonto,vsplice,vstrEq,vbyteV,vnotB,veqB⟩ →
  vb=bV→vc=cV→(vw=fun k x=>k.wrap x)→(vtoN=fun n=>n.toNat)→(vofN=fun(n:Nat)=>(n:Int))→(vaddN=fun a b=>a+b)→(vsubN=fun a b=>a-b)→(vmaxI=fun x y=>if y>x then y else x) →
  (vminI=fun x y=>if y<x then y else x)→(vcutN=fun i l m=>if m=l then i else i+l)→(vgd=fun l n=>l.getD n 0)→(vst=fun l n v=>l.set n v)→(vln=fun l=>l.length)→(vrep=fun n v=>List.replicate n v) →
  (vsub=fun l i n=>(l.drop i).take n)→(vonto=fun l n xs=>l.take n++xs)→(vsplice=fun l i xs=>l.take i++xs++l.drop (i+xs.length)) →
  (vstrEq=fun a b=>a.map (fun n=>UInt8.ofNat n.toNat)==b.map (fun n=>UInt8.ofNat n.toNat))→(vbyteV=fun n=>((UInt8.ofNat n.toNat).toNat:Int))→(vnotB=fun b=>!b)→(veqB=fun a b=>a==b) →
  ex ⟨vb,vc,vw,vtoN,vofN,vaddN,vsubN,vmaxI,vminI,vcutN,vgd,vst,vln,vrep,vsub,vonto,vsplice,vstrEq,vbyteV,vnotB,veqB⟩ P x { t:=args++List.replicate (n-args.length) .undef,h:=H,r:=[],d:=[],rd:=none } (fin rs kP)):Con P f args H kP:=
 kbf hm hf (koC h)
theorem kJ {x y:Int}:cV .eql x y=true↔x=y:=by simp[cV]
theorem ky {x y:Int}:cV .eql x y=false↔¬(x=y):=by simp[cV]
theorem kaw {x y:Int}:cV .neq x y=true↔x≠y:=by simp[cV]
theorem kax {x y:Int}:cV .neq x y=false↔¬(x≠y):=by simp[cV]
theorem ko {x y:Int}:cV .lss x y=true↔x<y:=by simp[cV]
theorem kb {x y:Int}:cV .lss x y=false↔¬(x<y):=by simp[cV]
theorem kay {x y:Int}:cV .leq x y=true↔x≤y:=by simp[cV]
theorem kaz {x y:Int}:cV .leq x y=false↔¬(x≤y):=by simp[cV]
theorem kC {x y:Int}:cV .gtr x y=true↔y<x:=by simp[cV]
theorem kx {x y:Int}:cV .gtr x y=false↔¬(y<x):=by simp[cV]
theorem jP {x y:Int}:cV .geq x y=true↔y≤x:=by simp[cV]
theorem k7 {x y:Int}:cV .geq x y=false↔¬(y≤x):=by simp[cV]
theorem nc (n:Nat):@NatCast.natCast Int instNatCastInt n=(n:Int):=rfl

theorem kaR {k:IntKind} (h:k.signed=false) {x:Int} (h0:0≤x) (h1:x<2^k.bits):k.wrap x=x:=by
 cases k<;>simp[IntKind.wrap,IntKind.bits,IntKind.signed] at*<;> omega
theorem qF {x:Int} {n:Nat} (h0:0≤x) (h1:x<2^n):x.toNat<2^n:=by
 rw[Int.toNat_lt h0];push_cast;exact h1
theorem knO {k:IntKind} (h:k.signed=false) {x y:Int} (hx:0≤x) (hx1:x<2^k.bits) (hy:0≤y) (hy1:y<2^k.bits):bV .and k x y=((x.toNat &&& y.toNat:Nat):Int):=by
 show k.wrap _=_
 have e1:(BitVec.ofInt k.bits x).toNat=x.toNat:=by
  rw[BitVec.toNat_ofInt];congr 1;rw[Int.emod_eq_of_lt hx (by exact_mod_cast hx1)]
 have e2:(BitVec.ofInt k.bits y).toNat=y.toNat:=by
  rw[BitVec.toNat_ofInt];congr 1;rw[Int.emod_eq_of_lt hy (by exact_mod_cast hy1)]
 rw[BitVec.toNat_and,e1,e2];refine kaR h (by omega) ?_
 have:x.toNat &&& y.toNat≤x.toNat:=Nat.and_le_left;have:((x.toNat &&& y.toNat:Nat):Int)≤x:=by omega
 omega
theorem ko2 {k:IntKind} (h:k.signed=false) {x y:Int} (hx:0≤x) (hx1:x<2^k.bits) (hy:0≤y) (hy1:y<2^k.bits):bV .or k x y=((x.toNat |||y.toNat:Nat):Int):=by
 show k.wrap _=_
 have e1:(BitVec.ofInt k.bits x).toNat=x.toNat:=by
  rw[BitVec.toNat_ofInt];congr 1;rw[Int.emod_eq_of_lt hx (by exact_mod_cast hx1)]
 have e2:(BitVec.ofInt k.bits y).toNat=y.toNat:=by
  rw[BitVec.toNat_ofInt];congr 1;rw[Int.emod_eq_of_lt hy (by exact_mod_cast hy1)]
 rw[BitVec.toNat_or,e1,e2];refine kaR h (by omega) ?_
 have h1:x.toNat<2^k.bits:=by first|exact qF hx hx1|exact qF hy hy1
 have h2:y.toNat<2^k.bits:=by first|exact qF hx hx1|exact qF hy hy1
 have:=Nat.or_lt_two_pow h1 h2
 exact_mod_cast this
theorem kb9 {k:IntKind} {x y:Int} (hy1:y≤k.bits):bV .shr k x y=x / 2^y.toNat:=by
 show x.fdiv _=_
 rw[Nat.min_eq_left (by omega),Int.fdiv_eq_ediv_of_nonneg];exact Int.le_of_lt (Int.pow_pos (by decide))
theorem keC {k:IntKind} (h:k.signed=false) {x y:Int} (hx:0≤x) (hy1:y≤k.bits) (hx1:x*2^y.toNat<2^k.bits):bV .shl k x y=x*2^y.toNat:=by
 show k.wrap _=_
 rw[Nat.min_eq_left (by omega)];exact kaR h (Int.mul_nonneg hx (Int.le_of_lt (Int.pow_pos (by decide)))) hx1
theorem keD {k:IntKind} (h:k.signed=false) {x:Int} (n:Nat) (hn:n≤k.bits) (hx:0≤x) (hx1:x<2^k.bits):bV .and k x (2^n-1)=x % 2^n:=by
 have hp:(0:Int)<2^n:=Int.pow_pos (by decide);have hq:(2:Int)^n≤2^k.bits:=by exact_mod_cast Nat.pow_le_pow_right (by decide) hn
 rw[knO h hx hx1 (by omega) (by omega)];have e:((2:Int)^n-1).toNat=2^n-1:=by
  have:(2:Int)^n=((2^n:Nat):Int):=by push_cast;rfl
  omega
 rw[e,Nat.and_two_pow_sub_one_eq_mod]
 push_cast
 rw[Int.toNat_of_nonneg hx]
theorem and_one {k:IntKind} (h:k.signed=false) {x:Int} (hx:0≤x) (hx1:x<2^k.bits):bV .and k x 1=x % 2:=by
 have:=keD h (x:=x) 1 (by cases k<;>simp[IntKind.bits]) hx hx1;simpa using this
theorem kgd {k:IntKind} (h:k.signed=false) {x b:Int} (i:Nat) (hx:0≤x) (hx1:x<2^i) (hb:0≤b) (hs:x+b*2^i<2^k.bits):bV .or k x (b*2^i)=x+b*2^i:=by
 have hp:(0:Int)<2^i:=Int.pow_pos (by decide);have hbp:0≤b*2^i:=Int.mul_nonneg hb (Int.le_of_lt hp);rw[ko2 h hx (by omega) hbp (by omega)];have e1:(b*2^i).toNat=2^i*b.toNat:=by
  have:b*2^i=((2^i*b.toNat:Nat):Int):=by push_cast;rw[Int.toNat_of_nonneg hb,Int.mul_comm]
  rw[this];rfl
 have hlt:x.toNat<2^i:=by
  have:x<((2^i:Nat):Int):=by push_cast;exact hx1
  omega
 rw[e1,Nat.or_comm,←Nat.two_pow_add_eq_or_of_lt hlt]
 push_cast
 rw[Int.toNat_of_nonneg hx,Int.toNat_of_nonneg hb,Int.mul_comm b];omega
end Go.Sx
namespace Go.Sx
open Go Go.ChangeShapes Go.WideShapes Go.RowKit Go.Deep
theorem kkx {P:Program} {f:Nat} {args:List SV} {H:List SB} {R0:List Nat} {H0:List SB} (c:Con P f args H (fun v H' R=>v=.bool true∧H'=H0∧R=R0)) (hH:∀B∈H,own B=false) {σ:Names} {w:World} (hok:Ok P σ (small H []) w) :
  Calls P f (denL σ args).toArray w fun e w'=>e=.returned (.bool true)∧Below w.heap.size w w':=by
 refine((c.out σ w hok).calls (fun k=>by simp[Fence.room,FR,Fence.wide])).mono ?_
 rintro e w' ⟨σ',v,H',R,⟨rfl,_,_⟩,rfl,_,hst⟩;exact⟨rfl,⟨hst.os,hst.tape,hst.output,hst.size,fun k hk=>hst.far k hk (fun i B p hB ho _=>by rw[hH B (List.mem_of_getElem? hB)] at ho;cases ho)⟩⟩
theorem km5 {P:Program} {w:World} (l:List (Option (Nat×Nat)×SB)) (h:∀e∈l,(∀p,e.1=some p→p.1<w.heap.size)∧own e.2=false∧∀σ,holds P σ e.1 w e.2) :
  Ok P (fun i=>(l[i]?).bind (·.1)) (small (l.map (·.2)) []) w:=by
 have hg:∀i B,(l.map (·.2))[i]?=some B→∃e∈l,l[i]?=some e∧e.2=B:=fun i B hB=>by
  rw[List.getElem?_map,Option.map_eq_some_iff] at hB;obtain⟨e,he,rfl⟩:=hB;exact⟨e,List.mem_of_getElem? he,he,rfl⟩
 refine⟨⟨fun i p hi hp=>?_,fun i j B C p q hij hB hC ho _ _=>?_,fun i B hB=>?_,(fun l hl=>by cases hl),(fun l hl=>by cases hl)⟩,Cold.nil rfl⟩
 ·simp only[Option.bind_eq_some_iff] at hp;obtain⟨e,he,hp⟩:=hp;exact(h e (List.mem_of_getElem? he)).1 p hp
 ·obtain⟨e,he,_,rfl⟩:=hg i B hB;obtain⟨e',he',_,rfl⟩:=hg j C hC;rw[(h e he).2.1,(h e' he').2.1] at ho;simp at ho
 ·obtain⟨e,he,h1,rfl⟩:=hg i B hB;rw[h1];exact(h e he).2.2 _
section
variable {H:Type} {enc:TypeId×Value→H} {P:Program}
theorem kbY (hl:laidOutB P=true) {W W':World} (hb:Below W.heap.size W W'):∀{ts:List TypeId} {vs:List Value} {ds:List (DataW H)} {ps:List MemPlace},
  ts.all (fun t=>P.readableRec t&&decide (t<P.types.size))=true→DataW.TrodAll enc P W 0 (fun _=>true) true ts vs ds ps→(∀x∈ps,x.block<W.heap.size) →
  DataW.TrodAll enc P W' 0 (fun b=>decide (b<W.heap.size)) true ts vs ds ps
 |[],vs,ds,ps,_,h,_=>by cases vs<;>cases ds<;>simp[DataW.TrodAll] at h ⊢;exact h
 |t::ts,vs,ds,ps,ht,h,hlt=>by
  obtain⟨v,vs',d,ds',p,q,rfl,rfl,rfl,h1,h2⟩:=trodAll_cons h;simp only[List.all_cons,Bool.and_eq_true,decide_eq_true_eq] at ht;exact⟨p,q,Below.trod hl ht.1.1 ht.1.2 h1 hb (fun x hx=>hlt x (List.mem_append_left _ hx)),kbY hl hb ht.2 h2 (fun x hx=>hlt x (List.mem_append_right _ hx)),rfl⟩
theorem klM {fn:Func} {s:ChangeSpec} {args:Array Value} {ds gs:List (DataW H)} {before:List MemPlace} {W W':World} {tb:TypeId} (hW:DataW.Whole enc P fn.params.toList s.vars false W args.toList ds gs before) (hv:s.vars=[])
  (hr:fn.resultTypes=#[tb]) (htb:P.underlying tb=some .bool) (hl:laidOutB P=true) (hp:fn.params.toList.all (fun t=>P.readableRec t&&decide (t<P.types.size))=true)
  (hf:(s.fn H (ds++gs)).results=[.lit (.bool true)]) (hf2:(s.fn H (ds++gs)).args=ds) (hf3:(s.fn H (ds++gs)).vars=[]) (hb:Below W.heap.size W W') :
  s.post enc P fn false true false false W args (.bool true) W':=by
 have hlt:=hW.lt;have hW0:=hW;obtain⟨p,q,hA,hV,rfl,hz,hn⟩:=hW;have hq:q=[]:=by
  rw[hv] at hV;cases gs<;>simp[DataW.TrodVars] at hV
  exact hV
 subst hq;refine⟨ds,gs,p++[],[],p,[],hW0,?_,?_,?_,hb.frame _,fun h=>by cases h⟩
 ·rw[hr,hf];exact trodAll_mk1 (shut_bool htb true)
 ·rw[hf2];exact kbY hl hb hp hA (fun x hx=>hlt x (List.mem_append_left _ hx))
 ·rw[hv,hf3];rfl
theorem wf_u8 {x:Int} (h:(Lit.int .u8 x).wf=true):0≤x∧x<256:=by
 simp[Lit.wf,IntKind.min,IntKind.max,IntKind.signed,IntKind.bits] at h
 omega
theorem klN {W:World} {base:Nat} {r:Reach} {t e:TypeId} {a:Addr} {len cap:Nat} (ht:P.underlying t=some (.slice e)) (hval:Value.okWide P W r base t (.slice (some a) len cap)):a.spot=none∧a.block<W.heap.size:=by
 have hk:Cell.ok P W r base t (.slice (some a) len cap):=by
  simp only[Value.okWide,ht,Cell.okWide] at hval;exact hval
 simp only[Cell.ok,ht] at hk;obtain⟨_,_,_,hspot,row,cells,hsh,_⟩:=hk;refine⟨hspot,?_⟩
 unfold World.shape? at hsh
 cases hg:W.heap[a.block]? with
 |none=>rw[hg] at hsh;cases hsh
 |some o=>exact(Array.getElem?_eq_some_iff.1 hg).1
theorem addr_add (b o i:Nat):(⟨b,o,none⟩:Addr).add i=⟨b,o+i,none⟩:=by
 unfold Addr.add;split
 ·rename_i h;subst h;rfl
 ·rfl
end
end Go.Sx
namespace Go.Sx
open Go
structure Cw (P:Program) (n0:Nat) (s:SS) (S:SS→Prop):Prop where
 out:∀σ0 s0 w0 σ w,s0.h.length≤n0→Ok P σ s w→Step σ0 s0 w0 σ s w→∃σ2 s2,S s2∧Ok P σ2 s2 w∧Step σ0 s0 w0 σ2 s2 w∧act σ2 s2=act σ s
section
variable {P:Program} {s:SS} {S:SS→Prop} {n0:Nat}
theorem Cw.of (h:Cv P n0 s S):Cw P n0 s S:=
 ⟨fun σ0 s0 w0 σ w hn hok hst=>let ⟨σ2,s2,h1,h2,h3,h4,_⟩:=h.out σ0 s0 w0 σ w hn hok hst;⟨σ2,s2,h1,h2,h3,h4⟩⟩
theorem Cw.mono {S':SS→Prop} (h:Cw P n0 s S) (hS:∀s,S s→S' s):Cw P n0 s S':=
 ⟨fun σ0 s0 w0 σ w hn hok hst=>let ⟨σ2,s2,h1,h2⟩:=h.out σ0 s0 w0 σ w hn hok hst;⟨σ2,s2,hS _ h1,h2⟩⟩
end
end Go.Sx
namespace Go.Sx
open Go Go.ChangeShapes Go.WideShapes Go.RowKit Go.Deep
section
variable {H:Type} {enc:TypeId×Value→H} {P:Program}
theorem kfr {W:World} {base:Nat} {r:Reach} {t e:TypeId} {k:IntKind} {v:Value} {d:DataW H} {ps:List MemPlace} (ht:P.underlying t=some (.slice e)) (he:P.underlying e=some (.int k)) (hc:P.cellsOf e=1)
  (hval:Value.okWide P W r base t v) (hd:DataW.Trod enc P W 0 (fun _=>true) true t v d ps) :
  ∃(p0:Option (Nat×Nat)) (l:List Int) (cap:Nat),v=.slice (p0.map fun p=>⟨p.1,p.2,none⟩) l.length cap∧(∀p,p0=some p→p.1<W.heap.size)∧(∀σ,holds P σ p0 W (.ro k l))∧(∀x∈l,(Lit.int k x).wf=true) ∧
   l.length≤cap∧((d=.nil∧l=[])∨∃rest,d=.slice (lits k l) rest):=by
 obtain⟨a1,len,cap,rfl⟩:=okWide_slice ht hval;obtain⟨fuel,hf⟩:=hd;rcases open_ints ht he hc hf with⟨hcs,hx⟩|⟨a,len',cap',zs,hcs,_,hl,hm,hz,hx,hcell,hwz⟩
 ·simp[Value.cells] at hcs
  obtain⟨rfl,rfl,rfl⟩:=hcs;simp only[Prod.mk.injEq] at hx;exact⟨none,[],0,rfl,(fun p hp=>by cases hp),(fun σ=>.inl ⟨rfl,rfl⟩),(by simp),Nat.le_refl _,.inl ⟨hx.1,rfl⟩⟩
 ·simp[Value.cells] at hcs
  obtain⟨rfl,rfl,rfl⟩:=hcs;simp only[if_true] at hz;simp only[Prod.mk.injEq] at hx;obtain⟨hspot,hlt⟩:=klN ht hval;have hlen:(zs.take len).length=len:=by simp;omega
  obtain⟨b,o,sp⟩:=a;simp only at hspot
  subst hspot;refine⟨some (b,o),zs.take len,cap,by rw[hlen];rfl,(fun p hp=>by cases hp;exact hlt),fun σ=>.inr ⟨b,o,rfl,fun i hi=>?_⟩,fun x hx=>hwz x (List.mem_of_mem_take hx),(by rw[hlen];exact hl),.inr ⟨_,hx.1⟩⟩
  have hi':i<zs.length:=by simp at hi;omega
  have:=hcell i hi';have e:(zs.take len).getD i 0=zs.getD i 0:=by
   rw[hlen] at hi;simp[List.getD_eq_getElem?_getD,List.getElem?_take,hi]
  rw[addr_add] at this;rw[e];exact this
end
end Go.Sx
namespace Go.Sx
open Go Go.ChangeShapes Go.WideShapes Go.RowKit Go.Deep
section
variable {H:Type} {enc:TypeId×Value→H} {P:Program}
end
end Go.Sx
namespace Go.Sx
open Go
section
variable {O:Ops} {P:Program} {s:SS}
theorem kca {v:SV} {A B A' B':Unit→Prop} (hA:A ()→A' ()) (hB:B ()→B' ()):ka1 v A B→ka1 v A' B':=by
 unfold ka1;split
 ·split
  ·exact hA
  ·exact hB
 ·exact id
theorem qj {row:List SV} {j:Nat} {K K':SV→Prop} (hK:∀v,K v→K' v):rowAt row j K→rowAt row j K':=by
 unfold rowAt;split
 ·exact hK _
 ·exact id
theorem kf {a b c:Prop} (h:b→c):a∧b→a∧c:=fun⟨x,y⟩=>⟨x,h y⟩
theorem qk {k:IntKind} {v:SV} {K K':Int→Prop} (hK:∀v,K v→K' v):intOf k v K→intOf k v K':=by
 unfold intOf;split
 ·split
  ·exact hK _
  ·exact id
 ·split
  ·exact hK _
  ·exact id
 ·exact id
theorem klO {B:SB} {i:Ix} {sz j:Nat} {K K':SV→Prop} (hK:∀v,K v→K' v):ldB O B i sz j K→ldB O B i sz j K':=by
 unfold ldB;split
 ·exact qj hK
 all_goals first
  |exact id
  |exact qj hK
  |(split<;>first|exact kf (hK _)|exact kf (qj hK)|exact qj hK|exact id)
theorem khs {x:SV} {K K':SV→Prop} (hK:∀v,K v→K' v):ld1 O s x K→ld1 O s x K':=by
 unfold ld1;split
 ·split
  ·exact klO hK
  ·exact id
 ·exact id
theorem kht {b:Nat} {i:Ix} {sz:Nat}:∀{n j:Nat} {K K':List SV→Prop},(∀v,K v→K' v)→ldN O s b i sz n j K→ldN O s b i sz n j K'
 |0,_,_,_,hK=>by unfold ldN;exact hK _
 |n+1,j,_,_,hK=>by unfold ldN;exact khs (fun v=>kht (fun vs=>hK _))
theorem klP {B:SB} {i:Ix} {sz j:Nat} {v:SV} {K K':SB→Prop} (hK:∀v,K v→K' v):stB O B i sz j v K→stB O B i sz j v K':=by
 unfold stB;split
 ·split
  ·split
   ·exact hK _
   ·exact id
  ·exact id
 all_goals first
  |exact id
  |(split<;>first|exact qk (fun n=>kf (hK _))|exact id|(split<;>first|exact id|exact hK _|(split<;>first|exact id|exact kf (hK _)|exact hK _)))
theorem khu {x v:SV} {K K':SS→Prop} (hK:∀v,K v→K' v):st1 O s x v K→st1 O s x v K':=by
 unfold st1;split
 ·split
  ·exact klP (fun _=>hK _)
  ·exact id
 ·exact id
theorem khv {b:Nat} {i:Ix} {sz:Nat}:∀{vs:List SV} {j:Nat} {s:SS} {K K':SS→Prop},(∀v,K v→K' v)→stN O b i sz vs j s K→stN O b i sz vs j s K'
 |[],_,_,_,_,hK=>by unfold stN;exact hK _
 |v::vs,j,_,_,_,hK=>by unfold stN;exact khu (fun s=>khv hK)
theorem kbl {v:SV} {K K':List SV→Prop} (hK:∀v,K v→K' v):kal v K→kal v K':=by
 unfold kal;split
 ·exact hK _
 ·split<;>first|exact hK _|exact id
 ·exact id
 ·exact id
 ·exact hK _
theorem kcb:∀{ps:List Part} {row:List SV} {K K':List SV→Prop},(∀v,K v→K' v)→kcq s ps row K→kcq s ps row K'
 |[],_,_,_,hK=>by unfold kcq;exact hK _
 | p::ps,row,_,_,hK=>by
  unfold kcq;refine kbl (fun cs=>?_)
  split
  ·split
   ·exact kcb hK
   ·exact id
  ·exact id
theorem kcE {k:IntKind}:∀{l:List SV} {K K':List Int→Prop},(∀v,K v→K' v)→q8 k l K→q8 k l K'
 |[],_,_,hK=>by unfold q8;exact hK _
 |v::l,_,_,hK=>by unfold q8;exact qk (fun n=>kcE (fun ns=>hK _))
theorem keE {k:IntKind}:∀{ps:List Part} {l:List Int} {K K':List Int→Prop},(∀v,K v→K' v)→kdr s k ps l K→kdr s k ps l K'
 |[],_,_,_,hK=>by unfold kdr;exact hK _
 |p::ps,l,_,_,hK=>by
  unfold kdr;refine qk (fun n=>?_)
  split
  ·exact keE hK
  ·exact id
theorem kbF {k:IntKind} {v:SV} {K K':List Int→Nat→Prop} (hK:∀l n,K l n→K' l n):kf1 O s k v K→kf1 O s k v K':=by
 unfold kf1;split
 ·split<;>first|exact id|(split<;>first|exact kf (hK _ _)|exact id)
 ·exact hK _ _
 ·split
  ·rintro⟨l,h1,h2,h3⟩;exact⟨l,h1,h2,hK _ _ h3⟩
  ·exact id
theorem klQ {n:Nat} {B:SB} {K K':Prop} (hK:K→K'):scB n B K→scB n B K':=by
 unfold scB;split<;>first|exact hK|exact kf hK|(split<;>first|exact hK|exact id)
theorem khw {n:Nat}:∀{h:List SB} {K K':Prop},(K→K')→scH n h K→scH n h K'
 |[],_,_,hK=>by unfold scH;exact hK
 |B::h,_,_,hK=>by unfold scH;exact klQ (khw hK)
theorem jt {K K':Prop} (hK:K→K'):scS s K→scS s K':=by
 unfold scS;split
 ·exact khw hK
 ·exact id
theorem kky {R:List Nat} {B:SB} {K K':Prop} (hK:K→K'):kd0 R B K→kd0 R B K':=by
 unfold kd0;split<;>first|exact hK|exact kf hK
theorem qJ {R:List Nat}:∀{h:List SB} {K K':Prop},(K→K')→kcp R h K→kcp R h K'
 |[],_,_,hK=>by unfold kcp;exact hK
 |B::h,_,_,hK=>by unfold kcp;exact kky (qJ hK)
theorem kfs {e:Nat} {k:IntKind} {bytes:Nat} {dst:SV} {xs:List Int} {m:Nat} {K K':SV→SS→Prop} (hK:∀v s,K v s→K' v s):kiq O s e k bytes dst xs m K→kiq O s e k bytes dst xs m K':=by
 unfold kiq;split
 ·split
  ·split
   ·split
    ·exact kf (kf (kf (qJ (fun h c js hc=>hK _ _ (h c js hc)))))
    ·exact id
   ·exact id
  ·split
   ·split
    ·exact kf (kf (kf (qJ (fun h c js hc=>hK _ _ (h c js hc)))))
    ·exact id
   ·exact id
  ·exact id
 ·exact kf (jt (fun h c hc=>hK _ _ (h c hc)))
 ·exact id
theorem j7 {v:Option SV} {d t:Nat} {K K':Nat→Prop} (hK:∀v,K v→K' v):bnd O v d t K→bnd O v d t K':=by
 unfold bnd;split
 ·exact hK _
 ·split<;>first|exact kf (hK _)|exact id
theorem jV {b:Nat} {K K':Prop} (hK:K→K'):there s b K→there s b K':=by
 unfold there;split<;>first|exact hK|exact id|exact kf hK
theorem khx {b:Nat} {K K':Prop} (hK:K→K'):kc1 O s b K→kc1 O s b K':=by
 unfold kc1;split<;>first|exact kf hK|exact jV hK
theorem kkz {neg:Bool} {x y:SV} {K K':Bool→Prop} (hK:∀v,K v→K' v):kli O s neg x y K→kli O s neg x y K':=by
 unfold kli;split
 ·split<;>first|exact hK _|exact khx (hK _)|exact id
 ·exact id
theorem kkA {neg:Bool} {ty:Nat} {x y:SV} {K K':Bool→Prop} (hK:∀v,K v→K' v):kjX O s neg ty x y K→kjX O s neg ty x y K':=by
 unfold kjX;split<;>first|exact hK _|exact jV (hK _)|exact kkz hK|exact id
theorem kft {op:BinOp} {k:IntKind} {x y:SV} {K K':SV→Prop} (hK:∀v,K v→K' v):kd5 O op k x y K→kd5 O op k x y K':=by
 unfold kd5;split
 all_goals first
  |exact id
  | (split<;>first
   |exact id
   |(split<;>first
    |exact id
    |exact kf (hK _)
    |(split<;>first|exact id|exact hK _|exact kf (hK _))))
theorem kfu {op:BinOp} {x y:SV} {K K':SV→Prop} (hK:∀v,K v→K' v):kdO O op x y K→kdO O op x y K':=by
 unfold kdO;split
 all_goals first
  |exact id
  |(split<;>first|exact hK _|exact id)
theorem kcc {v:SV} {K K':List SV→Prop} (hK:∀v,K v→K' v):kdq v K→kdq v K':=by
 unfold kdq;split
 ·exact hK _
 ·split<;>first|exact hK _|exact id
 ·exact id
theorem keF:∀{n:Nat} {xs ys:List SV} {K K':Bool→Prop},(∀v,K v→K' v)→qe O n xs ys K→qe O n xs ys K'
 |0,[],[],_,_,hK=>by unfold qe;exact hK _
 |0,x::xs,_,_,_,hK=>by unfold qe;exact id
 |0,[],y::ys,_,_,hK=>by unfold qe;exact id
 |n+1,[],_,_,_,hK=>by unfold qe;exact id
 |n+1,x::xs,[],_,_,hK=>by unfold qe;exact id
 |n+1,x::xs,y::ys,_,_,hK=>by unfold qe;exact kfu (fun v=>kca (keF hK) (hK _))
theorem khy {mx:Bool} {x y:SV} {K K':SV→Prop} (hK:∀v,K v→K' v):mmV O mx x y K→mmV O mx x y K':=by
 unfold mmV;split
 all_goals first
  |exact id
  |(split<;>first|exact hK _|exact id)
theorem kbG {i:SV} {n:Nat} {K K':Nat→Prop} (hK:∀v,K v→K' v):kf5 O i n K→kf5 O i n K':=by
 unfold kf5;split<;>first|exact kf (hK _)|exact id
theorem kkB {sz:Nat} {v:SV} {K K':List SV→Nat→Prop} (hK:∀a b,K a b→K' a b):kir s sz v K→kir s sz v K':=by
 unfold kir;split
 ·split
  ·split
   ·split
    ·exact hK _ _
    ·exact id
   ·exact id
  ·exact id
 ·exact hK _ _
 ·exact id
theorem kkC {sz:Nat} {v:SV} {K1 K1':List SV→Prop} {K K':(Nat→List SV)→Nat→Prop} (h1:∀a,K1 a→K1' a) (hK:∀a b,K a b→K' a b):kjW O s sz v K1 K→kjW O s sz v K1' K':=by
 unfold kjW;split
 ·split
  ·split
   ·split
    ·split
     ·exact h1 _
     ·exact id
    ·exact id
   all_goals first|(split<;>first|exact kf (hK _ _)|exact id)|exact id
  ·exact id
 ·exact id
theorem kfv {e sz bytes:Nat} {dst:SV} {m:Nat} {g:Nat→List SV} {F:(Nat→List SV)→Nat→Nat→List SV} {K K':SV→SS→Prop} (hK:∀v s,K v s→K' v s):kis O s e sz bytes dst m g F K→kis O s e sz bytes dst m g F K':=by
 unfold kis;split
 ·split
  ·split
   ·split
    ·exact kf (kf (kf (kf (kf (qJ (fun h c js hc=>hK _ _ (h c js hc)))))))
    ·exact id
   ·split
    ·split
     ·exact kf (kf (kf (kf (qJ (fun h c js hc=>hK _ _ (h c js hc))))))
     ·exact id
    ·exact id
   ·exact id
  ·exact id
 ·exact kf (kf (kf (jt (fun h c hc=>hK _ _ (h c hc)))))
 ·exact id
theorem kkD {e sz bytes:Nat} {dst:SV} {xs:List SV} {m:Nat} {K K':SV→SS→Prop} (hK:∀v s,K v s→K' v s):appR s e sz bytes dst xs m K→appR s e sz bytes dst xs m K':=by
 unfold appR;split
 ·split
  ·split
   ·split
    ·split
     ·exact id
     ·split
      ·exact id
      ·split
       ·split
        ·exact kf (kf (qJ (fun h c js hc=>hK _ _ (h c js hc))))
        ·exact id
       ·exact id
    ·exact id
   ·exact id
  ·exact id
 ·exact kf (jt (by
   split
   ·exact fun h c hc=>hK _ _ (h c hc)
   ·exact id))
 ·exact id
theorem kkE {v:SV} {K K':Int→Prop} (hK:∀v,K v→K' v):kjV v K→kjV v K':=by
 unfold kjV;split<;>first|exact hK _|exact id
theorem keG {o:XOp} {K K':Prop} (hK:K→K'):kbS o s K→kbS o s K':=by
 unfold kbS;split
 ·split
  ·exact hK
  ·exact id
 ·exact hK
theorem kdD {g:Option (Nat×Bool)} {A B A' B':Unit→Prop} (hA:A ()→A' ()) (hB:B ()→B' ()):ka9 s g A B→ka9 s g A' B':=by
 unfold ka9;split
 ·exact hA
 ·split
  ·split
   ·split
    ·exact hA
    ·exact hB
   ·split
    ·exact hB
    ·exact hA
  ·exact hB
  ·exact id
theorem kdc {Q Q':Prop} (hQ:Q→Q'):∀{l:List (XOp×Nat×Option (Nat×Bool))},kdP O s l Q→kdP O s l Q'
 |[]=>by unfold kdP;exact hQ
 |(o,d,g)::l=>by
  unfold kdP;split
  ·exact kf (kdc hQ)
  ·exact id
theorem kfw {l c:SV} {K K':Int→Int→Prop} (hK:∀a b,K a b→K' a b):kiv l c K→kiv l c K':=by
 unfold kiv;split<;>first|exact hK _ _|exact id
theorem khz {o:XOp} {K K':SV→Prop} (hK:∀v,K v→K' v):kA O o s K→kA O o s K':=by
 unfold kA;split
 ·exact hK _
 ·split
  ·exact hK _
  ·exact id
 ·exact kca (hK _) (hK _)
 ·exact kcb (fun _=>hK _)
 ·split
  ·exact jV (hK _)
  ·exact hK _
  ·exact hK _
  ·exact id
 ·exact kft hK
 ·exact kfu hK
 ·exact kcc (fun _=>kcc (fun _=>keF (fun _=>hK _)))
 ·exact kkA (fun _=>hK _)
 ·split
  ·exact hK _
  ·exact id
 ·exact kft hK
 ·exact qk (fun _=>hK _)
 ·split
  ·exact hK _
  ·exact hK _
  ·exact id
 ·split
  ·exact jV (hK _)
  ·exact id
 ·split
  ·split
   ·exact qj hK
   ·split
    ·exact hK _
    ·exact id
  ·exact id
 ·split
  ·exact kbG (fun _=>hK _)
  ·exact id
 ·refine kcc (fun _=>?_)
  split
  ·refine kbG (fun _=>?_)
   split
   ·exact hK _
   ·split
    ·exact hK _
    ·exact id
  ·exact id
 ·split
  ·split
   ·refine kbG (fun _=>?_)
    split<;>first|exact kf (hK _)|exact hK _|exact id
   ·exact id
  ·exact id
 ·split
  ·split
   ·exact kbG (fun _=>jV (hK _))
   ·exact id
  ·exact id
 ·split
  ·split
   ·exact j7 (fun _=>j7 (fun _=>j7 (fun _=>hK _)))
   ·exact id
  ·split
   ·exact j7 (fun _=>j7 (fun _=>j7 (fun _=>hK _)))
   ·exact id
  ·exact id
 ·split
  ·split
   ·refine jV ?_
    split
    ·exact id
    ·exact j7 (fun _=>j7 (fun _=>j7 (fun _=>hK _)))
   ·exact id
  ·exact id
 ·split<;>first|exact hK _|exact id
 ·split<;>first|exact hK _|exact id
 ·exact khy hK
 ·exact khy hK
 ·exact hK _
 ·split
  ·exact qj hK
  ·exact id
 ·exact hK _
 ·split
  ·split
   ·exact hK _
   ·exact id
  ·exact id
 ·exact id
theorem khA {o:XOp} {K K':SV→Prop} (hK:∀v,K v→K' v):kaH O o s K→kaH O o s K':=by
 unfold kaH;split
 ·exact khs hK
 ·split
  ·exact kht (fun _=>hK _)
  ·exact id
 ·exact kbF (fun _ _=>hK _)
 ·exact id
theorem kiV {k:IntKind} {dst:SV} {xs:List Int} {m:Nat} {K K':SV→SS→Prop} (hK:∀v s,K v s→K' v s):kgJ O s k dst xs m K→kgJ O s k dst xs m K':=by
 unfold kgJ;split
 ·split
  ·split
   ·exact kf (hK _ _)
   ·exact id
  ·exact id
 ·exact id
theorem kkF {e:Nat} {n:Int} {K K':SV→SS→Prop} (hK:∀v s,K v s→K' v s):kll O s e n K→kll O s e n K':=by
 unfold kll;exact kf (kf (jt (fun h l hl=>hK _ _ (h l hl))))
def klR (O:Ops) (P:Program) (o:XOp) (s:SS) (K:SV→SS→Prop) (X:XE→SS→Prop):Prop:=
 match o with
 |.call _ _=>False
 |.icall _ _ _=>False
 |.pnc _=>False
 |o=>kL O P o s K X
theorem khB {o:XOp} {K K':SV→SS→Prop} {X X':XE→SS→Prop} (hK:∀v s,K v s→K' v s):klR O P o s K X→kL O P o s K' X':=by
 unfold klR;split
 ·exact False.elim
 ·exact False.elim
 ·exact False.elim
 ·rename_i h1 h0 h2;unfold kL;split
  ·refine kbl (fun _=>?_)
   split
   ·exact jt (hK _ _)
   ·exact kcE (fun _=>jt (hK _ _))
  ·exact jt (hK _ _)
  ·exact jt (hK _ _)
  ·exact jt (hK _ _)
  ·exact keE (fun _=>jt (hK _ _))
  ·refine kbl (fun _=>?_)
   split
   ·exact khu (hK _)
   ·exact id
  ·split
   ·split
    ·exact jV (khv (hK _))
    ·exact id
   ·exact id
  ·exact kfw (fun _ _=>kf (kf (kf (kf (jt (hK _ _))))))
  ·exact kfw (fun _ _=>kf (kf (kf (kf (jt (hK _ _))))))
  ·exact kbF (fun _ _=>kfs hK)
  ·exact kkE (fun _=>kf (kf (kfs hK)))
  ·exact kbF (fun _ _=>kiV hK)
  ·exact qk (fun _=>kkF hK)
  ·exact kbF (fun _ _=>qk (fun _ h r hr=>hK _ _ (h r hr)))
  ·exact kcb (fun _=>by
    split
    ·exact jt (hK _ _)
    ·exact id)
  ·split
   ·exact kkC (fun _=>kfv hK) (fun _ _=>kfv hK)
   ·exact kkB (fun _ _=>kkD hK)
  ·exact(h1 _ _ rfl).elim
  ·exact(h0 _ _ _ rfl).elim
  ·exact(h2 _ rfl).elim
  ·exact id
def kdE (n:Nat):List Nat→List Nat
 |[]=>[]
 |i::R=>if ltB i n then i::kdE n R else kdE n R
theorem mem_dropN {n i:Nat}:∀{R:List Nat},i∈kdE n R↔i∈R∧i<n
 |[]=>by simp[kdE]
 | j::R=>by
  have ih:=mem_dropN (n:=n) (i:=i) (R:=R);simp only[kdE];split
  ·rename_i hb;have h:j<n:=by simpa [ltB] using hb
   simp only[List.mem_cons,ih];constructor
   ·rintro(rfl|⟨h1,h2⟩)
    ·exact⟨.inl rfl,h⟩
    ·exact⟨.inr h1,h2⟩
   ·rintro⟨rfl|h1,h2⟩
    ·exact .inl rfl
    ·exact .inr ⟨h1,h2⟩
  ·rename_i hb;have h:¬j<n:=by simpa [ltB] using hb
   rw[ih];constructor
   ·rintro⟨h1,h2⟩;exact⟨by simp[h1],h2⟩
   ·rintro⟨h1,h2⟩;rcases List.mem_cons.1 h1 with rfl|h1
    ·exact absurd h2 h
    ·exact⟨h1,h2⟩
theorem kH {f:Nat} {args:List SV} {H:List SB} {kP:SV→List SB→List Nat→Prop} (h:Con P f args H (fun v H' R=>kP v H' (kdE H.length R))):Con P f args H kP:=by
 refine⟨h.go,fun σ w hok=>(h.out σ w hok).mono ?_⟩
 rintro e w' ⟨σ',v,H',R,k1,k2,k3,k4⟩;exact⟨σ',v,H',_,k1,k2,⟨⟨k3.lt,k3.ne,k3.blk,(fun l hl=>by cases hl),(fun l hl=>by cases hl)⟩,Cold.nil rfl⟩,
  ⟨k4.size,k4.os,k4.tape,k4.output,k4.far,k4.len,fun i hi hr=>k4.names i hi (fun hm=>hr (mem_dropN.2 ⟨hm,hi⟩)),(fun i hi=>by cases hi),k4.own,rfl⟩⟩
theorem kfx {O:Ops} {P:Program} {f:Nat} {x:XC} {n:Nat} {rs:List Nat} {args:List SV} {s:SS} {K:SV→SS→Prop} {X:XE→SS→Prop} (hw:Words O) (hm:P.follows .mixedOrders=true) (hf:FnOk P f x n rs)
  (hsc:scL s.h.length s.t=true) (h:ex O P x { t:=args++List.replicate (n-args.length) .undef,h:=s.h,r:=[],d:=[],rd:=none } (fin rs (fun v H R=>qE s K v H (kdE s.h.length R)))):CallX P f args s K X:=by
 rw[hw.eq] at h;exact khf hsc (kH (kbf hm hf h))
end
end Go.Sx
namespace Go.Sx
open Go
abbrev Tab:=List (Nat×(Unit→XC)×Nat×List Nat)
section
variable {T:Unit→Tab} {P:Program} {s:SS}
theorem ready_mono {h:List SB} {l:Nat} {K K':List SV→List Nat→XC→XC→Prop} (hK:∀t ps a b,K t ps a b→K' t ps a b):ready h l K→ready h l K':=by
 unfold ready;split
 ·exact hK _ _ _ _
 ·exact id
structure Rn (p:Prop):Prop where
 out:p
end
end Go.Sx
namespace Go.Sx
open Go
section
variable {P:Program} {s:SS} {S:SS→Prop} {n0:Nat}
def kn3:SB→Bool
 |.defd=>true
 |_=>false
theorem Cv.blockEq (b:Nat) (B B':SB) (hb:s.h[b]?=some B) (ho:own B'=own B) (hl:jh B'=jh B) (hd:kn3 B=false) (hh:∀σ p w,holds P σ p w B→holds P σ p w B') (h:Cv P n0 { s with h:=s.h.set b B' } S):Cv P n0 s S:=by
 have hbl:b<s.h.length:=(List.getElem?_eq_some_iff.1 hb).1;have hget:∀i C,(s.h.set b B')[i]?=some C→∃C0,s.h[i]?=some C0∧own C=own C0∧jh C=jh C0∧(∀σ p w,holds P σ p w C0→holds P σ p w C):=fun i C hC=>by
  rw[List.getElem?_set,if_pos hbl] at hC;split at hC
  ·rename_i e;subst e
   cases hC
   exact⟨B,hb,ho,hl,hh⟩
  ·exact⟨C,hC,rfl,rfl,fun _ _ _ h=>h⟩
 have hdef:∀l:Nat,s.h[l]?=some SB.defd→(s.h.set b B')[l]?=some SB.defd:=fun l hl'=>by
  rw[List.getElem?_set,if_pos hbl];split
  ·rename_i e;subst e
   rw[hb] at hl';cases hl';cases hd
  ·exact hl'
 have hloop:∀(l:Nat) (C:SB),s.h[l]?=some C→jh C=true→∃D,(s.h.set b B')[l]?=some D∧jh D=true:=fun l C hC hC1=>by
  rw[List.getElem?_set,if_pos hbl];split
  ·rename_i e;subst e
   rw[hb] at hC;cases hC
   exact⟨B',rfl,by rw[hl];exact hC1⟩
  ·exact⟨C,hC,hC1⟩
 refine⟨fun σ0 s0 w0 σ w hn hok hst=>?_⟩
 obtain⟨σ2,s2,k1,k2,k3,k4,k5⟩:=h.out σ0 s0 w0 σ w hn
  ⟨⟨fun i p hi hp=>hok.lt i p (by simpa using hi) hp,fun i j C D p q hij hC hD hoo=>by
   obtain⟨C',hC',e1,_⟩:=hget i C hC;obtain⟨D',hD',e2,_⟩:=hget j D hD;rw[e1,e2] at hoo;exact hok.ne i j C' D' p q hij hC' hD' hoo,fun i C hC=>by
   obtain⟨C',hC',_,_,e3⟩:=hget i C hC;exact e3 σ (σ i) w (hok.blk i C' hC'),fun l hl=>⟨(hok.marks l hl).1,hdef l (hok.marks l hl).2⟩,fun l hl=>by
   obtain⟨h1,C,h2,h3⟩:=hok.rnd l hl;obtain⟨D,h4,h5⟩:=hloop l C h2 h3;exact⟨h1,D,h4,h5⟩⟩,⟨hok.cold.there,fun i C p hC hoC=>by
   obtain⟨C',hC',e1,_⟩:=hget i C hC;rw[e1] at hoC;exact hok.cold.apart i C' p hC' hoC⟩⟩
  ⟨hst.size,hst.os,hst.tape,hst.output,hst.far,by simpa using hst.len,hst.names,hst.red,fun i C p hC hoC=>by
   obtain⟨C',hC',e1,_⟩:=hget i C hC;rw[e1] at hoC;exact hst.own i C' p hC' hoC,hst.rd⟩
 exact⟨σ2,s2,k1,k2,k3,k4,fun hl=>k5 (by simpa using hl)⟩
theorem Cv.arrEq (b:Nat) {t sz len:Nat} {f:Nat→List SV} (f':Nat→List SV) (hb:s.h[b]?=some (.arr t sz len f)) (he:∀i,genL (f' i)=genL (f i)) (h:Cv P n0 { s with h:=s.h.set b (.arr t sz len f') } S):Cv P n0 s S:=by
 refine Cv.blockEq b (.arr t sz len f) (.arr t sz len f') hb rfl rfl rfl ?_ h
 rintro σ p w ⟨g,cs,h1,h2,h3,h4⟩;refine⟨g,cs,h1,h2,h3,fun i hi=>?_⟩
 obtain⟨h5,h6⟩:=h4 i hi;have e:denL σ (f' i)=denL σ (f i):=by rw[←den_genL,he,den_genL]
 have el:(f' i).length=(f i).length:=by rw[←jC σ,e,jC]
 refine⟨by rw[el];exact h5,fun j v hv=>?_⟩
 have e2:=congrArg (fun l=>l[j]?) e;simp only[jq,hv,Option.map_some] at e2;cases hf:(f i)[j]? with
 |none=>rw[hf] at e2;cases e2
 |some u=>
  rw[hf] at e2;simp only[Option.map_some,Option.some.injEq] at e2;rw[e2];exact h6 j u hf
end
end Go.Sx
namespace Go.Sx
open Go Go.ChangeShapes Go.WideShapes Go.RowKit Go.Deep
variable {H:Type} {enc:TypeId×Value→H} {P:Program}
end Go.Sx
